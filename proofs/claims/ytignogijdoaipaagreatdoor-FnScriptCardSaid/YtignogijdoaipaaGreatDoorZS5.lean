/-
  A part of the proof: texts put together by a program of the prover. Conditions: none.
-/
import Derived.Test.YtignogijdoaipaaGreatDoorZS4
import Derived.Shelf.RegionOpenPlain
import Derived.WalkKit
import Derived.Deep.LoopGhost
import Derived.Deep.RegionLaw
import Derived.Lib.Walk
import Derived.Sort.WalkB12
import Derived.Lib.SliceRun
import Derived.Deep.Upon
import Derived.Deep.MidRow
import Derived.Laws.IdiomCopy
import Derived.Lib.Hide
import Derived.Lib.ItoaNum
import Derived.Lib.ItoaLen
set_option linter.unusedSimpArgs false
set_option linter.unusedVariables false
section
set_option maxRecDepth 100000
set_option maxHeartbeats 4000000
namespace Go.Proofs
open Go.Lv
open Go.Shelf Go.RowKit Go.Lib Go.Sort
def vd (C : Array Value) : Nat → List Value → Array Value
 | _, [] => C
 | o, v :: r => vd (C.setIfInBounds o v) (o + 1) r
theorem qh : ∀ (vs : List Value) (C : Array Value) (o : Nat), (vd C o vs).size = C.size
 | [], _, _ => rfl
 | v :: r, C, o => by rw [vd, qh r]; simp
theorem vr : ∀ (vs : List Value) (C : Array Value) (o k : Nat), (k < o ∨ o + vs.length ≤ k) → (vd C o vs).getD k Go.undef = C.getD k Go.undef
 | [], _, _, _, _ => rfl
 | v :: r, C, o, k, hk => by
  simp only [List.length_cons] at hk
  rw [vd, vr r _ _ _ (by omega), Array.getD_eq_getD_getElem?, Array.getD_eq_getD_getElem?, Array.getElem?_setIfInBounds_ne (by omega)]
theorem ahp : ∀ (vs : List Value) (C : Array Value) (o j : Nat) (hj : j < vs.length), o + vs.length ≤ C.size → (vd C o vs).getD (o + j) Go.undef = vs[j]
 | v :: r, C, o, 0, _, h => by
  simp only [List.length_cons] at h
  rw [vd, vr r _ _ _ (by omega), Array.getD_eq_getD_getElem?, Nat.add_zero, Array.getElem?_setIfInBounds_self_of_lt (by omega)]
  rfl
 | v :: r, C, o, j + 1, hj, h => by
  simp only [List.length_cons] at h
  have := ahp r (C.setIfInBounds o v) (o + 1) j (by simpa using hj) (by simp; omega)
  rw [vd, show o + (j + 1) = o + 1 + j by omega, this]
  rfl
theorem u0 (b : Nat) : ∀ (vs : List Value) (o : Nat) (w : World) (C : Array Value) (T : TypeId) (fr : Nat × Nat), w.heap[b]? = some (.cells C T fr) → w.setCells b o vs = w.setRow b (vd C o vs)
 | [], _, w, C, T, fr, hb => (setRow_self w b C T fr hb).symm
 | v :: r, o, w, C, T, fr, hb => by
  rw [World.setCells, setCell_eq_setRow w b o C T fr v hb, u0 b r (o + 1) _ _ T fr (setRow_heap w b C _ T fr hb), setRow_setRow]
  rfl
theorem ae1 {P : Program} (w : World) (t e ty : TypeId) (z : Value) (ht : P.underlying t = some (.slice e)) (hv : ∀ w, (zeroValue e).run P w = .ok z w) (h1 : ∀ u ∈ z.cells.toList, u.oneCell' = true) (b o c : Nat)
 (hc : ∀ j, j < z.cells.size → (w.cell? ⟨b, o + j, none⟩).isSome = true) (hf : ∀ j, j < z.cells.size → w.frozen? ⟨b, o + j, none⟩ = false) :
 (Builtin.clear_ #[t] ty #[.slice (some ⟨b, o, none⟩) 1 c]).run P w = .ok (.tuple #[]) (w.setCells b o z.cells.toList) := by
 have hzc : (Builtin.zeroCells z.cells 1).toList = z.cells.toList := by
  simp [Builtin.zeroCells]
  apply List.ext_getElem
  · simp
  · intro i h1 h2
    simp at h1
    simp [Nat.mod_eq_of_lt h1, h1]
 have hst := run_storeCells_cells (P := P) b o z.cells.toList 0 w (by simpa using hc) (by simpa using hf) (by intro v hv'; exact h1 v hv')
 simp only [Nat.add_zero] at hst
 simp [Builtin.clear_, run_underlying ht, hv, hzc, hst]
def fw : Value := .agg #[.int .i64 0, .int .i64 0, .int .i64 0, .int .i64 0, .int .i64 0]
theorem agj (b n cap i : Nat) (C : Array Value) (T : TypeId) (w : World) {fr : Nat × Nat} (hb : w.heap[b]? = some (.cells C T fr)) (hfr : y8 fr C.size) (hC : cap * 5 ≤ C.size) (hn : n ≤ cap) (hi : i < n) (news : List Value) (hnl : news.length = (n - (i + 1)) * 5)
 (hng : ∀ t, t < (n - (i + 1)) * 5 → news[t]? = some (C.getD ((i + 1) * 5 + t) Go.undef)) (h1 : ∀ u ∈ news, u.oneCell' = true) :
 Calls Tryz.prog 197 #[.slice (some ⟨b, 0, none⟩) n cap, .int .i64 i, .int .i64 ((i : Int) + 1)] w fun e w' =>
  e = .returned (.slice (some ⟨b, 0, none⟩) (n - 1) cap) ∧ w' = ((w.drew).setCells b (i * 5) news).setCells b ((n - 1) * 5) fw.cells.toList := by
 have he : jj Tryz.prog 25 = some (80, 5, 40) := by kernel_rfl
 obtain ⟨i0, t81, hi0, hz5, _⟩ := iz he
 have hzv : ∀ w, (zeroValue 80).run Tryz.prog w = .ok fw w := by
  have hz : (Tryz.prog.info? 80).bind (·.zero) = some fw := by kernel_rfl
  intro w
  rw [hi0] at hz
  simp only [Option.bind_some] at hz
  simp [zeroValue, typeInfo, hi0, hz]
 have hcell : ∀ k, k < C.size → w.cell? ⟨b, k, none⟩ = some (C.getD k Go.undef) := fun k hk => by simp [World.cell?, hb, Array.getD, hk]
 have hfrz : ∀ (k : Nat), k < C.size → w.frozen? ⟨b, k, none⟩ = false := fun k hk => hfr.not hb hk
 obtain ⟨A, hA, hsrc⟩ : ∃ A : Addr, (if cap = i + 1 then some (⟨b, 0, none⟩ : Addr) else some ⟨b, (i + 1) * 5, none⟩) = some A ∧ Hid (∀ t u, news[t]? = some u → w.drew.cell? (A.add t) = some u) := by
  by_cases h : cap = i + 1
  · refine ⟨⟨b, 0, none⟩, by simp [h], fun t u hu => ?_⟩
    have h0 : news.length = 0 := by rw [hnl]; omega
    rw [List.length_eq_zero_iff.1 h0] at hu
    simp at hu
  · refine ⟨⟨b, (i + 1) * 5, none⟩, by simp [h], fun t u hu => ?_⟩
    have ht : t < (n - (i + 1)) * 5 := by
     have := (List.getElem?_eq_some_iff.1 hu).1
     rwa [hnl] at this
    rw [hng t ht] at hu
    rw [Addr.add_lit]
    exact (hcell ((i + 1) * 5 + t) (by omega)).trans hu
 have s1 : Hid (news.length = (n - (i + 1)) * 5) := hnl
 have s2 : Hid (∀ u ∈ news, u.oneCell' = true) := h1
 have s3 : Hid (∀ t, t < news.length → (w.drew.cell? ⟨b, 0 + i * 5 + t, none⟩).isSome = true ∧ w.drew.frozen? ⟨b, 0 + i * 5 + t, none⟩ = false) := by
  intro t ht
  rw [hnl] at ht
  exact ⟨by show (w.cell? _).isSome = true; rw [hcell _ (by omega)]; rfl, hfrz _ (by omega)⟩
 obtain ⟨W1, hW1⟩ : ∃ W1, W1 = w.drew.setCells b (i * 5) news := ⟨_, rfl⟩
 have hsome : ∀ k, k < C.size → (W1.cell? ⟨b, k, none⟩).isSome = true := fun k hk => by
  rw [hW1]
  exact World.isSome_setCells b news _ w.drew _ (by show (w.cell? _).isSome = true; rw [hcell k hk]; rfl)
 have hcl : ∀ ty, (Builtin.clear_ #[25] ty #[.slice (some ⟨b, (i + (n - (i + 1))) * 5, none⟩) (n - (i + (n - (i + 1)))) (cap - (i + (n - (i + 1))))]).run Tryz.prog W1 = .ok (.tuple #[]) (W1.setCells b ((i + (n - (i + 1))) * 5) fw.cells.toList) := by
  intro ty
  have e1 : n - (i + (n - (i + 1))) = 1 := by omega
  rw [e1]
  refine ae1 W1 _ _ ty fw t81 hzv (by decide) b _ _ (fun j hj => hsome _ ?_) (fun j hj => ?_)
  · have : j < 5 := hj
    omega
  · rw [hW1, World.frozen?_setCells]
    have : j < 5 := hj
    exact hfrz _ (by omega)
 obtain ⟨zc, hzc⟩ : ∃ zc, zc = fw.cells.toList := ⟨_, rfl⟩
 rw [← hzc] at hcl
 have Z : Aside (zc = fw.cells.toList) := hzc
 have X : Aside (W1 = w.drew.setCells b (i * 5) news) := hW1
 have hW : Hid (W1 = w.drew.setCells b (0 + i * 5) news) := by rw [Nat.zero_add]; exact hW1
 have hic : i ≤ cap := by omega
 have hjc : i + 1 ≤ cap := by omega
 have hz5' : Hid (i0.size = 5) := hz5
 have mixed := Tryz.mixed
 have hb1 : (0 : Int) ≤ (i : Int) + 1 ∧ (i : Int) + 1 ≤ (n : Int) := by omega
 have hb2 : (0 : Int) ≤ (i : Int) + 1 := by omega
 have hb3 : (i : Int) + 1 ≤ (n : Int) := by omega
 clear hzc hzv hW1 hnl hng h1 hcell hfrz hfr hb hsome
 go_enter Tryz.func197, Tryz.ntmps197
 go_wp2_with fail
 go_region_law_o (refine step_append_room rfl (.tmp 22) (.tmp 25) 25 rfl 80 i0 5 t81 hi0 hz5'.out b 0 i cap (by simp [Act.eval, Act.put]) A (n - (i + 1)) (cap - (i + 1)) news (by simp [Act.eval, Act.put]) s1.out hsrc.out s2.out (by omega) s3.out ?_; rw [← hW.out])
 go_wp2
 go_ret
 have e1 : i + (n - (i + 1)) = n - 1 := by omega
 refine ⟨?_, ?_⟩
 · rw [e1]
   rfl
 · rw [e1, X.out, Z.out]
theorem aid (L : List aj) (i : Nat) (hi : i < L.length) : Ctr Tryz.prog 197 [.osl 0 0 L.length 5, .int .i64 i, .int .i64 ((i : Int) + 1)] [some (rows aj.cs L)] (.osl 0 0 (L.length - 1) 5)
 [some (rows aj.cs (L.take i ++ L.drop (i + 1)) ++ [.int .i64 0, .int .i64 0, .int .i64 0, .int .i64 0, .int .i64 0])] := by
 refine Ctr.raw (by kernel_rfl) (fun w vs m av I hs => ?_)
 obtain ⟨n, hn⟩ : ∃ n, n = L.length := ⟨_, rfl⟩
 have hlen : (rows aj.cs L).length = n * 5 := by rw [gz, hn]
 have h0 := I.slots 0 (by simp)
 have h1 := I.slots 1 (by simp)
 have h2 := I.slots 2 (by simp)
 dsimp only [List.getElem_cons_zero, List.getElem_cons_succ] at h0 h1 h2
 have e1 := sx h1
 have e2 := sx h2
 obtain ⟨v0, hv0⟩ : ∃ v0, v0 = vs.getD 0 Go.undef := ⟨_, rfl⟩
 rw [← hv0] at h0
 have hvs : vs = #[v0, .int .i64 i, .int .i64 ((i : Int) + 1)] := by
  have hsz : vs.size = 3 := hs
  apply Array.ext
  · simpa using hsz
  · intro k hk hk'
    have hk3 : k < 3 := by omega
    have hg : vs[k] = vs.getD k Go.undef := by simp [Array.getD, hk]
    rw [hg]
    rcases (show k = 0 ∨ k = 1 ∨ k = 2 by omega) with rfl | rfl | rfl
    · exact hv0.symm
    · exact e1
    · exact e2
 cases h0 with
 | osl _ _ _ cap _ cs hid hl hc hsz =>
  have hcs : cs = rows aj.cs L := by
   have := hid.1
   simpa using this.symm
  subst hcs
  rcases I.rh.blk 0 _ hid.1 with ⟨C, T, fr, hb, hfr, hle, hr⟩ | ⟨E, c, es, hb, hmb, _⟩
  rotate_left
  · have := hid.2
    rw [hmb] at this
    cases this
  have hrow : db w (m 0) = C.size := by simp [db, hb]
  rw [hrow] at hsz
  rw [← hn] at hc hi ⊢
  obtain ⟨news, hnews⟩ : ∃ news : List Value, news = (List.range ((n - (i + 1)) * 5)).map fun t => C.getD ((i + 1) * 5 + t) Go.undef := ⟨_, rfl⟩
  have hnl : news.length = (n - (i + 1)) * 5 := by rw [hnews]; simp
  have hng : ∀ t, t < (n - (i + 1)) * 5 → news[t]? = some (C.getD ((i + 1) * 5 + t) Go.undef) := fun t ht => by rw [hnews]; simp [ht]
  have hcellAll := bh (cs := aj.cs) L
  have h1c : ∀ u ∈ news, u.oneCell' = true := by
   intro u hu
   rw [hnews] at hu
   obtain ⟨t, ht, rfl⟩ := List.mem_map.1 hu
   have ht' := List.mem_range.1 ht
   have hk : (i + 1) * 5 + t < (rows aj.cs L).length := by rw [hlen]; omega
   exact (agz (hr _ hk) (List.all_eq_true.1 hcellAll _ (List.getElem_mem hk))).1
  rw [hvs, ← hn]
  refine (agj (m 0) n cap i C T w hb hfr (by omega) hc hi news hnl hng h1c).mono ?_
  rintro e w' ⟨rfl, rfl⟩
  have hbd : w.drew.heap[m 0]? = some (.cells C T fr) := hb
  have hw : ((w.drew).setCells (m 0) (i * 5) news).setCells (m 0) ((n - 1) * 5) fw.cells.toList = w.drew.setRow (m 0) (vd (vd C (i * 5) news) ((n - 1) * 5) fw.cells.toList) := by
   rw [u0 (m 0) news _ w.drew C T _ hbd, u0 (m 0) _ _ _ _ T _ (setRow_heap w.drew (m 0) C _ T _ hbd), setRow_setRow]
  rw [hw]
  have I1 := I.world (Ext.drew _ w)
  have hz5 : fw.cells.toList.length = 5 := rfl
  have hcut : rows aj.cs (L.take i ++ L.drop (i + 1)) = (rows aj.cs L).take (i * 5) ++ (rows aj.cs L).drop ((i + 1) * 5) := by rw [je, af4 aj.csl, xb aj.csl]
  have hl1 : ((rows aj.cs L).take (i * 5)).length = i * 5 := by rw [List.length_take, hlen]; omega
  have hl2 : ((rows aj.cs L).drop ((i + 1) * 5)).length = (n - (i + 1)) * 5 := by rw [List.length_drop, hlen]; omega
  rw [hcut]
  obtain ⟨J, hstep⟩ := I1.setRow (id := 0) (cs := rows aj.cs L) (cs' := (rows aj.cs L).take (i * 5) ++ (rows aj.cs L).drop ((i + 1) * 5) ++ [.int .i64 0, .int .i64 0, .int .i64 0, .int .i64 0, .int .i64 0])
   (C := C) (C' := vd (vd C (i * 5) news) ((n - 1) * 5) fw.cells.toList) (T := T) hid hbd hfr (by rw [qh, qh]) (by simp only [List.length_append, hl1, hl2, hlen, List.length_cons, List.length_nil]; omega) (by simp only [List.length_append, hl1, hl2, qh, List.length_cons, List.length_nil]; omega) (fun k hk => by
    simp only [List.length_append, hl1, hl2, List.length_cons, List.length_nil] at hk
    have hrd : ∀ j (hj : j < (rows aj.cs L).length), RV w.drew m [some (rows aj.cs L)] (avm av m [some (rows aj.cs L)]) true (C.getD j Go.undef) (rows aj.cs L)[j] := by
     rcases I1.rh.blk 0 _ hid.1 with ⟨C2, T2, fr2, hb2, _, _, hr2⟩ | ⟨E, c, es, hb2, hmb, _⟩
     · rw [hbd] at hb2
       simp only [Option.some.injEq, Obj.cells.injEq] at hb2
       obtain ⟨rfl, _⟩ := hb2
       exact hr2
     · rw [hbd] at hb2; cases hb2
    rcases Nat.lt_or_ge k (i * 5) with h | h
    · rw [vr _ _ _ _ (by omega), vr _ _ _ _ (by omega)]
      have := hrd k (by omega)
      simpa [List.getElem_append, hl1, hl2, h, show k < i * 5 + (n - (i + 1)) * 5 by omega] using this
    · rcases Nat.lt_or_ge k ((n - 1) * 5) with h' | h'
      · rw [vr _ _ _ _ (by omega)]
        have hj : k - i * 5 < news.length := by omega
        have := ahp news C (i * 5) (k - i * 5) hj (by omega)
        rw [show i * 5 + (k - i * 5) = k by omega] at this
        rw [this]
        have h3 := hng (k - i * 5) (by omega)
        rw [List.getElem?_eq_getElem hj] at h3
        simp only [Option.some.injEq] at h3
        rw [h3]
        have h4 := hrd ((i + 1) * 5 + (k - i * 5)) (by omega)
        have hlt : ¬ k < i * 5 := by omega
        simpa [List.getElem_append, hl1, hl2, hlt, show k < i * 5 + (n - (i + 1)) * 5 by omega, show k - i * 5 < (n - (i + 1)) * 5 by omega] using h4
      · have hj : k - (n - 1) * 5 < fw.cells.toList.length := by rw [hz5]; omega
        have := ahp fw.cells.toList (vd C (i * 5) news) ((n - 1) * 5) (k - (n - 1) * 5) hj (by rw [qh]; omega)
        rw [show (n - 1) * 5 + (k - (n - 1) * 5) = k by omega] at this
        rw [this]
        have hge : ¬ k < i * 5 + (n - (i + 1)) * 5 := by omega
        have e5 : ∀ q, (hq : q < 5) → ([V.int .i64 0, .int .i64 0, .int .i64 0, .int .i64 0, .int .i64 0] : List V)[q]'(by simpa using hq) = .int .i64 0 := fun q hq => by
         rcases (show q = 0 ∨ q = 1 ∨ q = 2 ∨ q = 3 ∨ q = 4 by omega) with rfl | rfl | rfl | rfl | rfl <;> rfl
        have e6 : ∀ q, (hq : q < 5) → fw.cells.toList[q]'(by rw [hz5]; exact hq) = .int .i64 0 := fun q hq => by
         rcases (show q = 0 ∨ q = 1 ∨ q = 2 ∨ q = 3 ∨ q = 4 by omega) with rfl | rfl | rfl | rfl | rfl <;> rfl
        rw [e6 _ (by omega), List.getElem_append_right (by rw [List.length_append, hl1, hl2]; omega), e5 _ (by rw [List.length_append, hl1, hl2]; omega)]
        exact .int _ _)
  refine ⟨_, m, _, _, rfl, ?_, J, ?_⟩
  · rfl
  · have := RV.osl (w := w.drew.setRow (m 0) (vd (vd C (i * 5) news) ((n - 1) * 5) fw.cells.toList)) (m := m) (h := [some ((rows aj.cs L).take (i * 5) ++ (rows aj.cs L).drop ((i + 1) * 5) ++ [.int .i64 0, .int .i64 0, .int .i64 0, .int .i64 0, .int .i64 0])]) (av := avm av m [some ((rows aj.cs L).take (i * 5) ++ (rows aj.cs L).drop ((i + 1) * 5) ++ [.int .i64 0, .int .i64 0, .int .i64 0, .int .i64 0, .int .i64 0])]) 0 0 (n - 1) cap 5 _ ⟨rfl, ?_⟩ ?_ (by omega) ?_
    · exact this
    · have hlen2 : 5 ≤ ((rows aj.cs L).take (i * 5) ++ (rows aj.cs L).drop ((i + 1) * 5) ++ [V.int .i64 0,   .int .i64 0, .int .i64 0, .int .i64 0, .int .i64 0]).length := by simp only [List.length_append, List.length_cons, List.length_nil]; omega
      match h : ((rows aj.cs L).take (i * 5) ++ (rows aj.cs L).drop ((i + 1) * 5) ++ [V.int .i64 0, .int .i64 0, .int .i64 0, .int .i64 0, .int .i64 0]), hlen2 with
      | [], h2 => rfl
      | [x], h2 => simp at h2
      | _ :: _ :: _, _ => rfl
    · simp only [List.length_append, hl1, hl2, List.length_cons, List.length_nil]; omega
    · have : db (w.drew.setRow (m 0) (vd (vd C (i * 5) news) ((n - 1) * 5) fw.cells.toList)) (m 0) = C.size := by
       simp only [db, setRow_heap w.drew (m 0) C _ T _ hbd, qh]
      rw [this]; omega
end Go.Proofs
end
section
set_option maxRecDepth 100000
set_option maxHeartbeats 1000000
namespace Go.Proofs
open Go.Lv
def z5 : List V := [.int .i64 0, .int .i64 0, .int .i64 0, .int .i64 0, .int .i64 0]
theorem an3 (w : ab) (i : Nat) (n v : Int) (hw : wB w = true) (hi : i < w.Shocks.length) : Ctr Tryz.prog 179 [.ptr 0 0, .int .i64 i, .agg [.int .i64 8, .int .i64 n, .int .i64 v]] [some (w.oc 1 2), some (rows bf.cs w.Posts), some (rows aj.cs w.Shocks)] (.bool (aej w w.Shocks[i]))
 [some ((jq w i).oc 1 2), some (rows bf.cs w.Posts), some (rows aj.cs (w.Shocks.take i ++ w.Shocks.drop (i + 1)) ++ z5)] := by
 have W := eh hw
 have hx := W.shocks _ (List.getElem_mem hi)
 have hb := er.1 hx
 have hr := bw aj.csl hi
 have sl := W.slen
 have hwi : IntKind.i64.wrap ((i : Int) + 1) = (i : Int) + 1 := wrap_i64 (by omega) (by omega)
 have hwa : IntKind.i64.wrap (w.Archived + 1) = w.Archived + 1 := by have := W.arch; exact wrap_i64 (by omega) (by omega)
 have hwn : IntKind.i64.wrap (w.Now - w.Shocks[i].Tick) = w.Now - w.Shocks[i].Tick := by have := W.now; exact wrap_i64 (by omega) (by omega)
 have e : (w.Shocks.take i ++ w.Shocks.drop (i + 1)).length = w.Shocks.length - 1 := by simp; omega
 have hall : (rows aj.cs (w.Shocks.take i ++ w.Shocks.drop (i + 1)) ++ z5).all cn = true := by
  rw [List.all_append, bh]; rfl
 have hg : grown [some (rows aj.cs w.Shocks)] [some (rows aj.cs (w.Shocks.take i ++ w.Shocks.drop (i + 1)) ++ z5)] := by
  refine ⟨⟨?_, by rw [qu hall, mg]⟩, trivial⟩
  rw [List.length_append, gz, gz, e]
  show _ = (w.Shocks.length - 1) * 5 + 5
  omega
 refine Ctr.intro Tryz.mixed Tryz.func179 rfl Tryz.ag2 ?_
 refine ev2 @Tryz.ntmps179 @Tryz.results179 ?_
 refine rn4 @ab.oc.eq_1 @hr @aj.cs.eq_1 @hwi ?_
 refine ai.df [2] false ( aid w.Shocks i hi) (by decide) ⟨leO, leO, leO, trivial⟩ al6 ( hg) (.inl rfl) ?_
 refine rn2 @ab.oc.eq_1 @hwa ?_
 clear hall hg
 repeat' (first | (refine aw.bu (fun _ => ?_) (fun _ => ?_) <;> (repeat ((repeat1' (first | simp -implicitDefEqProofs -dsimp only [go_sem, *] | simp -dsimp (disch := omega) only [wrap_i64])); repeat (with_reducible refine de ?_)))) | (refine aw.cg (fun _ => ?_) (fun _ => ?_) <;> (repeat ((repeat1' (first | simp -implicitDefEqProofs -dsimp only [go_sem, *] | simp -dsimp (disch := omega) only [wrap_i64])); repeat (with_reducible refine de ?_)))))
 all_goals
  refine ak.pick [0, 1, 2] (by decide) (fun j hj => by have hj' : j = 0 ∨ j = 1 ∨ j = 2 := (by omega); rcases hj' with rfl | rfl | rfl <;> rfl) (.inl (by first | rfl | (simp [ren, aej, *]; done))) ?_
  simp [az, bg, ren, bc, posOf, ae, ab.oc, jq, z5, *]
  try omega
theorem bm {x y : V} (h : LeV x y := by first | exact leA | exact ab.le rfl rfl | exact ab.leT rfl rfl rfl) : LeV x y := h
theorem ab.leT {h : Hp} {w : ab} {i0 i1 n : Nat} {z : List V} (hn : n = w.Shocks.length) (h0 : h[i0]? = some (some (rows bf.cs w.Posts))) (h1 : h[i1]? = some (some (rows aj.cs w.Shocks ++ z))) : LeV (ren (fg h 3) 3 (.agg [.int .i64 w.Now, .osl i0 0 w.Posts.length 3, .osl i1 0 n 5, .int .i64 w.Next, .int .i64 w.Archived])) w.v := by
 subst hn
 refine .inl ?_
 have e : ∀ y : List V, (rows aj.cs w.Shocks ++ y).take (w.Shocks.length * 5) = rows aj.cs w.Shocks := fun y => List.take_left' (gz _)
 simp only [ab.v, ren, List.map_cons, List.map_nil, fg, h0, h1, ae, List.drop_zero, cr, List.map_append, e]
def fo (w : ab) (k n v : Int) : ab := if k = 1 then ⟨w.Now + (if 1000000 < v then 1000000 else v), w.Posts, w.Shocks, w.Next, w.Archived⟩ else ft w k n v
theorem anr (w : ab) (n v : Int) (hw : wB w = true) (hv : 1 ≤ v) : Ctr Tryz.prog 145 [w.v, .agg [.int .i64 1, .int .i64 n, .int .i64 v]] [] (.tup [(fo w 1 n v).o 0 1, .bool (e7 w 1 n v)]) [some (rows bf.cs w.Posts), some (rows aj.cs w.Shocks)] := by
 have W := eh hw
 have pl := W.plen
 have sl := W.slen
 have wn := W.now
 have hw1 : IntKind.i64.wrap (1000000 - w.Now) = 1000000 - w.Now := wrap_i64 (by omega) (by omega)
 have hw2 : IntKind.i64.wrap (w.Now + (if 1000000 < v then 1000000 else v)) = w.Now + (if 1000000 < v then 1000000 else v) := by split <;> exact wrap_i64 (by omega) (by omega)
 have hgood := eg (fo w 1 n v) (by simp [fo]; omega) (by simp [fo]; omega)
 have e2 : e7 w 1 n v = (decide (v ≤ 1000000 - w.Now) && wB (fo w 1 n v)) := by
  by_cases h : v ≤ 1000000 - w.Now
  · have h2 : ¬ 1000000 < v := by omega
    simp [e7, o9, ft, fo, h, h2]
  · simp [e7, o9, h]
 have e1 : fo w 1 n v = ⟨w.Now + (if 1000000 < v then 1000000 else v), w.Posts, w.Shocks, w.Next, w.Archived⟩ := by simp [fo]
 rw [e2]
 rw [e1] at hgood ⊢
 simp only [ab.v] at hgood
 refine Ctr.intro Tryz.mixed Tryz.func145 rfl Tryz.we ?_
 refine ev2 @Tryz.ntmps145 @Tryz.results145 ?_
 refine ev1 @ab.v.eq_1 ?_
 (have ct := dm w (by omega) (by omega); (first | refine al.at ct ⟨bm, trivial⟩ ?_ | refine ai.at ct ⟨bm, trivial⟩ ?_); clear ct)
 refine rn3 @ab.o.eq_1 @hw1 @hw2 ?_
 refine aw.bu (fun g => ?_) (fun g => ?_) <;> refine rn1 @g ?_
 · skip
   (first | refine al.at (hgood) ⟨bm, trivial⟩ ?_ | refine ai.at (hgood) ⟨bm, trivial⟩ ?_)
   refine rn1 @g ?_
   refine ak.pick [3, 4] (by decide) (fun j hj => by omega) (.inl ?_) ?_
   · first | rfl | (simp [ren, bc, posOf, ab.o, g]; done)
   · simp only [az, List.map_cons, List.map_nil, bg, List.getElem?_cons_zero, List.getElem?_cons_succ, ae]
 · skip
   refine ak.pick [3, 4] (by decide) (fun j hj => by omega) (.inl ?_) ?_
   · first | rfl | (simp [ren, bc, posOf, ab.o, g]; done)
   · simp only [az, List.map_cons, List.map_nil, bg, List.getElem?_cons_zero, List.getElem?_cons_succ, ae]
theorem anp (w : ab) (k n v : Int) (hk : k = 2 ∨ k = 3) (hw : wB w = true) (hs : du w k n v = true) : Ctr Tryz.prog 145 [w.v, .agg [.int .i64 k, .int .i64 n, .int .i64 v]] [] (.tup [(fo w k n v).o 0 1, .bool (e7 w k n v)]) [some (rows bf.cs (fo w k n v).Posts), some (rows aj.cs w.Shocks)] := by
 have W := eh hw
 have pl := W.plen
 have sl := W.slen
 obtain ⟨i, hi, hix, hin⟩ : ∃ i, ∃ h : i < w.Posts.length, jt (ky n) w.Posts = (i : Int) ∧ ky n w.Posts[i] = true := by
  have : decide (0 ≤ jt (ky n) w.Posts) = true := by
   rcases hk with rfl | rfl <;> simp [du] at hs <;> simp [hs.1]
  exact tl this
 have hst : w.Posts[i].Station = n := by simpa [ky] using hin
 have hp : pAt w n = i := by simp [pAt, hix]
 have e1 : fo w k n v = ⟨w.Now, w.Posts.set i ⟨n, decide (k = 3), w.Now⟩, w.Shocks, w.Next, w.Archived⟩ := by
  rcases hk with rfl | rfl <;> simp [fo, ft, hp]
 have e2 : e7 w k n v = (w.Posts[i].Up != decide (k = 3) && wB ⟨w.Now, w.Posts.set i ⟨n, decide (k = 3), w.Now⟩, w.Shocks, w.Next, w.Archived⟩) := by
  rcases hk with rfl | rfl <;> simp [e7, o9, ft, hp, ajt hi]
 have hr := bw bf.csl hi
 have hlen : ∀ p, (w.Posts.set i p).length = w.Posts.length := fun p => by simp
 have s1 : ∀ b, dj (rows bf.cs w.Posts) (i * 3 + 1) [.bool b] = rows bf.cs (w.Posts.set i ⟨n, b, w.Posts[i].Since⟩) := fun b => r9 (cs := bf.cs) bf.csl hi (by omega) (by rw [bf.cs, hst.symm]; rfl)
 have s2 : ∀ b, dj (rows bf.cs (w.Posts.set i ⟨n, b, w.Posts[i].Since⟩)) (i * 3 + 2) [.int .i64 w.Now] = rows bf.cs (w.Posts.set i ⟨n, b, w.Now⟩) := fun b => by
  have h := r9 (cs := bf.cs) bf.csl (L := w.Posts.set i ⟨n, b, w.Posts[i].Since⟩) (j := i) (f := 2) (v := .int .i64 w.Now) (x := ⟨n, b, w.Now⟩) (by simpa using hi) (by omega) (by simp; rfl)
  rwa [List.set_set] at h
 have hrl : ∀ L : List bf, (rows bf.cs L).length = L.length * 3 := fun L => lk bf.csl L
 have hgood := eg ⟨w.Now, w.Posts.set i ⟨n, decide (k = 3), w.Now⟩, w.Shocks, w.Next, w.Archived⟩ (by simp; omega) (by simp; omega)
 have hroom : i * 3 + 3 ≤ w.Posts.length * 3 := by omega
 rw [e1, e2]
 simp only [ab.v, hlen] at hgood
 simp only [ab.o, hlen]
 rcases hk with rfl | rfl
 · have hd : decide ((2 : Int) = 3) = false := rfl
   rw [hd] at hgood ⊢
   refine Ctr.intro Tryz.mixed Tryz.func145 rfl Tryz.we ?_
   refine ev2 @Tryz.ntmps145 @Tryz.results145 ?_
   refine ev1 @ab.v.eq_1 ?_
   (have ct := dm w (by omega) (by omega); (first | refine al.at ct ⟨bm, trivial⟩ ?_ | refine ai.at ct ⟨bm, trivial⟩ ?_); clear ct)
   refine rn1 @ab.o.eq_1 ?_
   (have ct := qf w n (by omega); (first | refine al.at ct ⟨bm, bm, trivial⟩ ?_ | refine ai.at ct ⟨bm, bm, trivial⟩ ?_); clear ct)
   rw [hix]
   refine rn2 @hr @bf.cs.eq_1 ?_
   refine pa.path [true, true, true, true, true, true, true, true, true, true, true, true, true, false, false, false, false] [false, false, false, false, false, true, false, false, false, true, true, false, false, false, false, false, false] 1 [3] (by kernel_rfl) ?_
   refine rn7 @hr @bf.cs.eq_1 @s1 @s2 @hrl @hlen @Int.toNat_natCast ?_
   refine aw.bu (fun g => ?_) (fun g => ?_) <;> refine rn3 @g @s1 @s2 ?_
   · skip
     (first | refine al.at (hgood) ⟨bm, trivial⟩ ?_ | refine ai.at (hgood) ⟨bm, trivial⟩ ?_)
     refine rn1 @g ?_
     simp at g
     refine ak.pick [3, 4] (by decide) (fun j hj => by omega) (.inl ?_) ?_
     · first | rfl | (simp [ren, bc, posOf, ab.o, g]; done)
     · simp only [az, List.map_cons, List.map_nil, bg, List.getElem?_cons_zero, List.getElem?_cons_succ, ae]
   · skip
     simp at g
     refine ak.pick [3, 4] (by decide) (fun j hj => by omega) (.inl ?_) ?_
     · first | rfl | (simp [ren, bc, posOf, ab.o, g]; done)
     · simp only [az, List.map_cons, List.map_nil, bg, List.getElem?_cons_zero, List.getElem?_cons_succ, ae]
 · have hd : decide ((3 : Int) = 3) = true := rfl
   rw [hd] at hgood ⊢
   refine Ctr.intro Tryz.mixed Tryz.func145 rfl Tryz.we ?_
   refine ev2 @Tryz.ntmps145 @Tryz.results145 ?_
   refine ev1 @ab.v.eq_1 ?_
   (have ct := dm w (by omega) (by omega); (first | refine al.at ct ⟨bm, trivial⟩ ?_ | refine ai.at ct ⟨bm, trivial⟩ ?_); clear ct)
   refine rn1 @ab.o.eq_1 ?_
   (have ct := qf w n (by omega); (first | refine al.at ct ⟨bm, bm, trivial⟩ ?_ | refine ai.at ct ⟨bm, bm, trivial⟩ ?_); clear ct)
   rw [hix]
   refine rn2 @hr @bf.cs.eq_1 ?_
   refine pa.path [true, true, true, true, true, true, true, true, true, true, true, true, true, false, false, false, false] [false, false, false, false, false, true, false, false, false, true, true, false, false, false, false, false, false] 1 [3] (by kernel_rfl) ?_
   refine rn7 @hr @bf.cs.eq_1 @s1 @s2 @hrl @hlen @Int.toNat_natCast ?_
   refine aw.bu (fun g => ?_) (fun g => ?_) <;> refine rn3 @g @s1 @s2 ?_
   · skip
     (first | refine al.at (hgood) ⟨bm, trivial⟩ ?_ | refine ai.at (hgood) ⟨bm, trivial⟩ ?_)
     refine rn1 @g ?_
     simp at g
     refine ak.pick [3, 4] (by decide) (fun j hj => by omega) (.inl ?_) ?_
     · first | rfl | (simp [ren, bc, posOf, ab.o, g]; done)
     · simp only [az, List.map_cons, List.map_nil, bg, List.getElem?_cons_zero, List.getElem?_cons_succ, ae]
   · skip
     simp at g
     refine ak.pick [3, 4] (by decide) (fun j hj => by omega) (.inl ?_) ?_
     · first | rfl | (simp [ren, bc, posOf, ab.o, g]; done)
     · simp only [az, List.map_cons, List.map_nil, bg, List.getElem?_cons_zero, List.getElem?_cons_succ, ae]
theorem aqz (w : ab) : (sq w.Posts w.Posts.length).length = upN w w.Posts.length := by simp [sq, upN]
theorem am6 (w : ab) (n v : Int) (hw : wB w = true) : Ctr Tryz.prog 145 [w.v, .agg [.int .i64 4, .int .i64 n, .int .i64 v]] [] (.tup [(fo w 4 n v).o 0 1, .bool (e7 w 4 n v)]) [some (rows bf.cs w.Posts), some (rows aj.cs (fo w 4 n v).Shocks)] := by
 have W := eh hw
 have pl := W.plen
 have sl := W.slen
 have wn := W.next
 have hwn : IntKind.i64.wrap (w.Next + 1) = w.Next + 1 := wrap_i64 (by omega) (by omega)
 obtain ⟨x, hx⟩ : ∃ x : aj, x = ⟨w.Next, 0, (upN w w.Posts.length : Int), 0, w.Now⟩ := ⟨_, rfl⟩
 have e1 : fo w 4 n v = ⟨w.Now, w.Posts, w.Shocks ++ [x], w.Next + 1, w.Archived⟩ := by simp [fo, ft, hx]
 have e2 : e7 w 4 n v = wB ⟨w.Now, w.Posts, w.Shocks ++ [x], w.Next + 1, w.Archived⟩ := by simp [e7, o9, ft, hx]
 have hsn : rows aj.cs w.Shocks ++ [.int .i64 w.Next, .int .i64 0, .int .i64 (upN w w.Posts.length : Int), .int .i64 0, .int .i64 w.Now] = rows aj.cs (w.Shocks ++ [x]) := by
  rw [hx]
  exact di (cs := aj.cs) w.Shocks ⟨w.Next, 0, (upN w w.Posts.length : Int), 0, w.Now⟩
 have hln : w.Shocks.length + 1 = (w.Shocks ++ [x]).length := by simp
 have hup := uk w (by omega)
 rw [aqz] at hup
 have hgood := eg ⟨w.Now, w.Posts, w.Shocks ++ [x], w.Next + 1, w.Archived⟩ (by simp; omega) (by simp; omega)
 rw [e1, e2]
 refine Ctr.intro Tryz.mixed Tryz.func145 rfl Tryz.we ?_
 refine ev2 @Tryz.ntmps145 @Tryz.results145 ?_
 refine ev1 @ab.v.eq_1 ?_
 (have ct := dm w (by omega) (by omega); (first | refine al.at ct ⟨bm, trivial⟩ ?_ | refine ai.at ct ⟨bm, trivial⟩ ?_); clear ct)
 refine rn1 @ab.o.eq_1 ?_
 (first | refine al.at (hup) ⟨bm, trivial⟩ ?_ | refine ai.at (hup) ⟨bm, trivial⟩ ?_)
 refine rn3 @hwn @hsn @hln ?_
 (first | refine al.at (hgood) ⟨bm, trivial⟩ ?_ | refine ai.at (hgood) ⟨bm, trivial⟩ ?_)
 refine rn1 @hsn ?_
 refine ak.pick [3, 4] (by decide) (fun j hj => by omega) (.inl ?_) ?_
 · first | rfl | (simp [ren, bc, posOf, ab.o]; done)
 · simp only [az, List.map_cons, List.map_nil, bg, List.getElem?_cons_zero, List.getElem?_cons_succ, ae]
theorem aoo (w : ab) (k n v : Int) (hk : k = 5 ∨ k = 6 ∨ k = 7) (hw : wB w = true) (hs : du w k n v = true) (hv : -100 ≤ v ∧ v ≤ 100) : Ctr Tryz.prog 145 [w.v, .agg [.int .i64 k, .int .i64 n, .int .i64 v]] [] (.tup [(fo w k n v).o 0 1, .bool (e7 w k n v)]) [some (rows bf.cs w.Posts), some (rows aj.cs (fo w k n v).Shocks)] := by
 have W := eh hw
 have pl := W.plen
 have sl := W.slen
 obtain ⟨i, hi, hix, hin⟩ : ∃ i, ∃ h : i < w.Shocks.length, jt (dt n) w.Shocks = (i : Int) ∧ dt n w.Shocks[i] = true := by
  have : decide (0 ≤ jt (dt n) w.Shocks) = true := by
   rcases hk with rfl | rfl | rfl <;> simp [du] at hs <;> simp [hs]
  exact tl this
 have hp : sAt w n = i := by simp [sAt, hix]
 have hsh := zh hi
 have e1 : fo w k n v = ⟨w.Now, w.Posts, w.Shocks.set i (ve w.Shocks[i] k v), w.Next, w.Archived⟩ := by
  rcases hk with rfl | rfl | rfl <;> simp [fo, ft, hp, hsh]
 have e2 : e7 w k n v = (aa2 w.Shocks[i] k && wB ⟨w.Now, w.Posts, w.Shocks.set i (ve w.Shocks[i] k v), w.Next, w.Archived⟩) := by
  rcases hk with rfl | rfl | rfl <;> simp [e7, o9, ft, hp, hsh]
 have htr := anf w i k n v hk hw hi hv
 have hlen : ∀ p, (w.Shocks.set i p).length = w.Shocks.length := fun p => by simp
 have hgood := eg ⟨w.Now, w.Posts, w.Shocks.set i (ve w.Shocks[i] k v), w.Next, w.Archived⟩ (by simp; omega) (by simp; omega)
 generalize ve w.Shocks[i] k v = y at e1 e2 htr hgood
 have hg : grown [some (w.oc 1 2), some (rows bf.cs w.Posts), some (rows aj.cs w.Shocks)] [some (w.oc 1 2), some (rows bf.cs w.Posts), some (rows aj.cs (w.Shocks.set i y))] := by
  refine ⟨⟨rfl, rfl⟩, ⟨rfl, rfl⟩, ⟨by rw [gz, gz, hlen], by rw [mg, mg]⟩, trivial⟩
 rw [e1, e2]
 clear e1 e2
 simp only [ab.v, hlen] at hgood
 simp only [ab.o, hlen]
 generalize aa2 w.Shocks[i] k = b at *
 rcases hk with rfl | rfl | rfl
 · skip
   refine Ctr.intro Tryz.mixed Tryz.func145 rfl Tryz.we ?_
   refine ev2 @Tryz.ntmps145 @Tryz.results145 ?_
   refine ev1 @ab.v.eq_1 ?_
   (have ct := dm w (by omega) (by omega); (first | refine al.at ct ⟨bm, trivial⟩ ?_ | refine ai.at ct ⟨bm, trivial⟩ ?_); clear ct)
   refine rn1 @ab.o.eq_1 ?_
   (have ct := ki w n (by omega); (first | refine al.at ct ⟨bm, bm, trivial⟩ ?_ | refine ai.at ct ⟨bm, bm, trivial⟩ ?_); clear ct)
   rw [hix]
   refine rn0 ?_
   refine ai.df [5, 3, 4] false htr (by decide) ⟨.inl rfl, .inl rfl, .inl rfl, trivial⟩ (by simp [az, bg, ren, bc, posOf, ae, ab.oc]) hg (.inl rfl) ?_
   refine rn1 @ab.oc.eq_1 ?_
   refine aw.bu (fun g => ?_) (fun g => ?_) <;> refine rn1 @g ?_
   · skip
     (first | refine al.at (hgood) ⟨bm, trivial⟩ ?_ | refine ai.at (hgood) ⟨bm, trivial⟩ ?_)
     refine rn1 @g ?_
     refine ak.pick [3, 4] (by decide) (fun j hj => by omega) (.inl ?_) ?_
     · first | rfl | (simp [ren, bc, posOf, ab.o, g]; done)
     · simp only [az, List.map_cons, List.map_nil, bg, List.getElem?_cons_zero, List.getElem?_cons_succ, ae]
   · skip
     refine ak.pick [3, 4] (by decide) (fun j hj => by omega) (.inl ?_) ?_
     · first | rfl | (simp [ren, bc, posOf, ab.o, g]; done)
     · simp only [az, List.map_cons, List.map_nil, bg, List.getElem?_cons_zero, List.getElem?_cons_succ, ae]
 · skip
   refine Ctr.intro Tryz.mixed Tryz.func145 rfl Tryz.we ?_
   refine ev2 @Tryz.ntmps145 @Tryz.results145 ?_
   refine ev1 @ab.v.eq_1 ?_
   (have ct := dm w (by omega) (by omega); (first | refine al.at ct ⟨bm, trivial⟩ ?_ | refine ai.at ct ⟨bm, trivial⟩ ?_); clear ct)
   refine rn1 @ab.o.eq_1 ?_
   (have ct := ki w n (by omega); (first | refine al.at ct ⟨bm, bm, trivial⟩ ?_ | refine ai.at ct ⟨bm, bm, trivial⟩ ?_); clear ct)
   rw [hix]
   refine rn0 ?_
   refine ai.df [5, 3, 4] false htr (by decide) ⟨.inl rfl, .inl rfl, .inl rfl, trivial⟩ (by simp [az, bg, ren, bc, posOf, ae, ab.oc]) hg (.inl rfl) ?_
   refine rn1 @ab.oc.eq_1 ?_
   refine aw.bu (fun g => ?_) (fun g => ?_) <;> refine rn1 @g ?_
   · skip
     (first | refine al.at (hgood) ⟨bm, trivial⟩ ?_ | refine ai.at (hgood) ⟨bm, trivial⟩ ?_)
     refine rn1 @g ?_
     refine ak.pick [3, 4] (by decide) (fun j hj => by omega) (.inl ?_) ?_
     · first | rfl | (simp [ren, bc, posOf, ab.o, g]; done)
     · simp only [az, List.map_cons, List.map_nil, bg, List.getElem?_cons_zero, List.getElem?_cons_succ, ae]
   · skip
     refine ak.pick [3, 4] (by decide) (fun j hj => by omega) (.inl ?_) ?_
     · first | rfl | (simp [ren, bc, posOf, ab.o, g]; done)
     · simp only [az, List.map_cons, List.map_nil, bg, List.getElem?_cons_zero, List.getElem?_cons_succ, ae]
 · skip
   refine Ctr.intro Tryz.mixed Tryz.func145 rfl Tryz.we ?_
   refine ev2 @Tryz.ntmps145 @Tryz.results145 ?_
   refine ev1 @ab.v.eq_1 ?_
   (have ct := dm w (by omega) (by omega); (first | refine al.at ct ⟨bm, trivial⟩ ?_ | refine ai.at ct ⟨bm, trivial⟩ ?_); clear ct)
   refine rn1 @ab.o.eq_1 ?_
   (have ct := ki w n (by omega); (first | refine al.at ct ⟨bm, bm, trivial⟩ ?_ | refine ai.at ct ⟨bm, bm, trivial⟩ ?_); clear ct)
   rw [hix]
   refine rn0 ?_
   refine ai.df [5, 3, 4] false htr (by decide) ⟨.inl rfl, .inl rfl, .inl rfl, trivial⟩ (by simp [az, bg, ren, bc, posOf, ae, ab.oc]) hg (.inl rfl) ?_
   refine rn1 @ab.oc.eq_1 ?_
   refine aw.bu (fun g => ?_) (fun g => ?_) <;> refine rn1 @g ?_
   · skip
     (first | refine al.at (hgood) ⟨bm, trivial⟩ ?_ | refine ai.at (hgood) ⟨bm, trivial⟩ ?_)
     refine rn1 @g ?_
     refine ak.pick [3, 4] (by decide) (fun j hj => by omega) (.inl ?_) ?_
     · first | rfl | (simp [ren, bc, posOf, ab.o, g]; done)
     · simp only [az, List.map_cons, List.map_nil, bg, List.getElem?_cons_zero, List.getElem?_cons_succ, ae]
   · skip
     refine ak.pick [3, 4] (by decide) (fun j hj => by omega) (.inl ?_) ?_
     · first | rfl | (simp [ren, bc, posOf, ab.o, g]; done)
     · simp only [az, List.map_cons, List.map_nil, bg, List.getElem?_cons_zero, List.getElem?_cons_succ, ae]
theorem an9 (w : ab) (n v : Int) (hw : wB w = true) (hs : du w 8 n v = true) : Ctr Tryz.prog 145 [w.v, .agg [.int .i64 8, .int .i64 n, .int .i64 v]] [] (.tup [(fo w 8 n v).o 0 1, .bool (e7 w 8 n v)]) [some (rows bf.cs w.Posts), some (rows aj.cs (fo w 8 n v).Shocks)] := by
 have W := eh hw
 have pl := W.plen
 have sl := W.slen
 obtain ⟨i, hi, hix, hin⟩ : ∃ i, ∃ h : i < w.Shocks.length, jt (dt n) w.Shocks = (i : Int) ∧ dt n w.Shocks[i] = true := by
  have : decide (0 ≤ jt (dt n) w.Shocks) = true := by
   simp [du] at hs
   simp [hs.1]
  exact tl this
 have hp : sAt w n = i := by simp [sAt, hix]
 have hsh := zh hi
 have e1 : fo w 8 n v = jq w i := by simp [fo, ft, jq, hp]
 have e2 : e7 w 8 n v = (aej w w.Shocks[i] && wB (jq w i)) := by simp [e7, o9, ft, jq, hp, hsh]
 have hgood := eg (jq w i) (by simp [jq]; omega) (by simp [jq]; omega)
 have htr := an3 w i n v hw hi
 have e3 : (jq w i).Shocks = w.Shocks.take i ++ w.Shocks.drop (i + 1) := rfl
 have hall : (rows aj.cs (w.Shocks.take i ++ w.Shocks.drop (i + 1)) ++ z5).all cn = true := by
  rw [List.all_append, bh]; rfl
 have e : (w.Shocks.take i ++ w.Shocks.drop (i + 1)).length = w.Shocks.length - 1 := by simp; omega
 have hg : grown [some (w.oc 1 2), some (rows bf.cs w.Posts), some (rows aj.cs w.Shocks)] [some ((jq w i).oc 1 2), some (rows bf.cs w.Posts), some (rows aj.cs (w.Shocks.take i ++ w.Shocks.drop (i + 1)) ++ z5)] := by
  refine ⟨⟨rfl, rfl⟩, ⟨rfl, rfl⟩, ⟨?_, by rw [qu hall, mg]⟩, trivial⟩
  rw [List.length_append, gz, gz, e]
  show _ = (w.Shocks.length - 1) * 5 + 5
  omega
 rw [e1, e2, e3]
 refine Ctr.intro Tryz.mixed Tryz.func145 rfl Tryz.we ?_
 refine ev2 @Tryz.ntmps145 @Tryz.results145 ?_
 refine ev1 @ab.v.eq_1 ?_
 (have ct := dm w (by omega) (by omega); (first | refine al.at ct ⟨bm, trivial⟩ ?_ | refine ai.at ct ⟨bm, trivial⟩ ?_); clear ct)
 refine rn1 @ab.o.eq_1 ?_
 (have ct := ki w n (by omega); (first | refine al.at ct ⟨bm, bm, trivial⟩ ?_ | refine ai.at ct ⟨bm, bm, trivial⟩ ?_); clear ct)
 rw [hix]
 refine rn0 ?_
 refine ai.df [5, 3, 4] false htr (by decide) ⟨.inl rfl, .inl rfl, .inl rfl, trivial⟩ (by simp [az, bg, ren, bc, posOf, ae, ab.oc]) hg (.inl rfl) ?_
 refine rn2 @ab.oc.eq_1 @z5.eq_1 ?_
 clear hall hg
 have htk : ∀ y : List V, (rows aj.cs (w.Shocks.take i ++ w.Shocks.drop (i + 1)) ++ y).take ((jq w i).Shocks.length * 5) = rows aj.cs (w.Shocks.take i ++ w.Shocks.drop (i + 1)) := fun y => List.take_left' (by rw [gz]; rfl)
 refine aw.bu (fun g => ?_) (fun g => ?_) <;> refine rn1 @g ?_
 · skip
   (first | refine al.at (hgood) ⟨bm, trivial⟩ ?_ | refine ai.at (hgood) ⟨bm, trivial⟩ ?_)
   refine rn1 @g ?_
   refine ak.trim 4 ((jq w i).Shocks.length * 5) rfl (by omega) (by simp only [List.length_append, gz, e3, List.length_cons, List.length_nil]; omega) (qu (by simp [bh, cn])) (by rw [htk]; exact mg _) ?_ ?_ ?_
   · simp [fits]
   · simp [fits, af7, List.all_append]
   · skip
     simp only [htk, List.set_cons_zero, List.set_cons_succ]
     refine ak.pick [3, 4] (by decide) (fun j hj => by omega) (.inl ?_) ?_
     · first | rfl | (simp [ren, bc, posOf, ab.o, g]; done)
     · simp only [az, List.map_cons, List.map_nil, bg, List.getElem?_cons_zero, List.getElem?_cons_succ, ae]
 · skip
   refine ak.trim 4 ((jq w i).Shocks.length * 5) rfl (by omega) (by simp only [List.length_append, gz, e3, List.length_cons, List.length_nil]; omega) (qu (by simp [bh, cn])) (by rw [htk]; exact mg _) ?_ ?_ ?_
   · simp [fits]
   · simp [fits, af7, List.all_append]
   · skip
     simp only [htk, List.set_cons_zero, List.set_cons_succ]
     refine ak.pick [3, 4] (by decide) (fun j hj => by omega) (.inl ?_) ?_
     · first | rfl | (simp [ren, bc, posOf, ab.o, g]; done)
     · simp only [az, List.map_cons, List.map_nil, bg, List.getElem?_cons_zero, List.getElem?_cons_succ, ae]
theorem arq (w : ab) (k n v : Int) (hw : wB w = true) (hs : du w k n v = true) : Ctr Tryz.prog 145 [w.v, .agg [.int .i64 k, .int .i64 n, .int .i64 v]] [] (.tup [(fo w k n v).o 0 1, .bool (e7 w k n v)]) [some (rows bf.cs (fo w k n v).Posts), some (rows aj.cs (fo w k n v).Shocks)] := by
 rcases pn hs with ⟨rfl, h1⟩ | hk | rfl | rfl | ⟨hk, h1⟩
 · have e : (fo w 1 n v).Posts = w.Posts ∧ (fo w 1 n v).Shocks = w.Shocks := by simp [fo]
   rw [e.1, e.2]
   exact anr w n v hw h1
 · have e : (fo w k n v).Shocks = w.Shocks := by rcases hk with rfl | rfl <;> simp [fo, ft]
   rw [e]
   exact anp w k n v hk hw hs
 · have e : (fo w 4 n v).Posts = w.Posts := by simp [fo, ft]
   rw [e]
   exact am6 w n v hw
 · have e : (fo w 8 n v).Posts = w.Posts := by simp [fo, ft]
   rw [e]
   exact an9 w n v hw hs
 · have e : (fo w k n v).Posts = w.Posts := by rcases hk with rfl | rfl | rfl <;> simp [fo, ft]
   rw [e]
   exact aoo w k n v hk hw hs h1
theorem ald {w : ab} {k n v : Int} (hw : wB w = true) (h : e7 w k n v = true) : fo w k n v = ft w k n v := by
 unfold fo
 split
 · rename_i h1
   subst h1
   have := (eh hw).now
   have h2 : v ≤ 1000000 - w.Now := by
    simp only [e7, o9, if_true, Bool.and_eq_true, decide_eq_true_eq] at h
    exact h.1
   have h3 : ¬ 1000000 < v := by omega
   simp [ft, h3]
 · rfl
theorem xh (w : ab) (k n v : Int) (hp : w.Posts.length ≤ 16777216) (hs : w.Shocks.length ≤ 16777216) : Ctr Tryz.prog 109 [w.v, .agg [.int .i64 k, .int .i64 n, .int .i64 v]] [] (ado (fi w k n v)) (ad6 (fi w k n v)) := by
 refine Ctr.intro Tryz.mixed Tryz.func109 rfl Tryz.ay8 ?_
 refine ev2 @Tryz.ntmps109 @Tryz.results109 ?_
 refine ev1 @ab.v.eq_1 ?_
 (have ct := eg w (by omega) (by omega); (first | refine al.at ct ⟨bm, trivial⟩ ?_ | refine ai.at ct ⟨bm, trivial⟩ ?_); clear ct)
 have no : fi w k n v = none → ∀ h : Hp, ak 0 (.tup [.agg [.int .i64 0, .nilsl, .nilsl, .int .i64 0, .int .i64 0], .bool false]) h (ado (fi w k n v)) (ad6 (fi w k n v)) := by
  intro e h
  rw [e]
  exact ak.au rfl (by rfl)
 cases hw : wB w with
 | false =>
  refine rn0 ?_
  exact no (by simp [fi, hw]) _
 | true =>
  refine rn0 ?_
  (have ct := anm w k n v hp hs; (first | refine al.at ct ⟨bm, bm, trivial⟩ ?_ | refine ai.at ct ⟨bm, bm, trivial⟩ ?_); clear ct)
  cases hst : du w k n v with
  | false =>
   refine rn0 ?_
   exact no (by simp [fi, hst]) _
  | true =>
   refine rn0 ?_
   have hm := arq w k n v hw hst
   cases hd : e7 w k n v with
   | false =>
    rw [hd] at hm
    (first | refine al.at (hm) ⟨bm, bm, trivial⟩ ?_ | refine ai.at (hm) ⟨bm, bm, trivial⟩ ?_)
    refine rn1 @ab.o.eq_1 ?_
    exact no (by simp [fi, hd]) _
   | true =>
    rw [hd] at hm
    (first | refine al.at (hm) ⟨bm, bm, trivial⟩ ?_ | refine ai.at (hm) ⟨bm, bm, trivial⟩ ?_)
    refine rn1 @ab.o.eq_1 ?_
    have e : fi w k n v = some (ft w k n v) := by simp [fi, hw, hst, hd]
    have e2 := ald hw hd
    rw [e, ← e2, ado, ad6]
    refine ak.pick [3, 4] (by decide) (fun j hj => by omega) (.inl ?_) ?_
    · first | rfl | (simp [ren, bc, posOf, ab.o]; done)
    · simp only [az, List.map_cons, List.map_nil, bg, List.getElem?_cons_zero, List.getElem?_cons_succ, ae]
end Go.Proofs
end
section
set_option maxRecDepth 100000
set_option maxHeartbeats 2000000
namespace Go.Proofs
open Go.Lv
def afm (B : List Int) (k : Int) (r : V) (hout : Hp) : Prop := ∃ (K : List Int) (c : Cur), K.length ≤ 10 ∧ c.le k ∧ r = .osl 1 0 K.length 1 ∧ hout = [some (c.cs B), some (rows IntS.cs K)]
theorem aay {B : List Int} (hB : CB B) {k : Int} (hk : k ≤ 1000000) {c : Cur} (hc : c.le k) : ml Tryz.prog 51 [.ptr 0 0] [some (c.cs B)] (afm B (k + 100)) := by
 refine ml.intro Tryz.mixed Tryz.func51 rfl Tryz.a2v ?_
 refine ev2 @Tryz.ntmps51 @Tryz.results51 ?_
 refine rn0 ?_
 refine dh.intro (fun x : Nat × List Int × Cur => 1 ≤ x.1 ∧ x.1 ≤ 7 ∧ x.2.1.length + 1 ≤ x.1 ∧ x.2.2.le (k + 2 * x.1)) (fun x => ⟨(.ptr 0 0 :: .undef :: .undef :: .osl 1 0 x.2.1.length 1 :: .int .i64 x.1 :: (un 38 [])), [some (x.2.2.cs B), some (rows IntS.cs x.2.1)], 1⟩) (fun x => 7 - x.1) (1, [], c) ⟨Nat.le_refl 1, (by decide : 1 ≤ 7), Nat.le_refl 1, ⟨hc.1, by have := hc.2; simp only []; omega⟩⟩ ?_ (fun x hx => ?_)
 · refine aq.cut (2) (by simp) (by simp) ?_ ?_
   · simp [LeC, LeV, ren, bj]
   · simp [bz, ck, Cur.ren, rows]
 obtain ⟨n, K, c1⟩ := x
 obtain ⟨x1, x2, x3, x4⟩ := hx
 dsimp only at x1 x2 x3 x4
 refine ev0 ?_
 refine ax.split (fun h1 => ?_) (fun h1 => ?_) <;> refine ev1 @h1 ?_
 · have hn : n < 7 := by have := of_decide_eq_true h1; omega
   have hw : IntKind.i64.wrap (4 * (n : Int)) = 4 * (n : Int) := wrap_i64 (by omega) (by omega)
   have hw2 : IntKind.i64.wrap ((n : Int) + 1) = ((n + 1 : Nat) : Int) := by rw [wrap_i64 (by omega) (by omega)]; omega
   have hc2 := dk (B := B) (n := 3) x4
   refine ai.df [0] false (aq8 hB ⟨x4.1, by have := x4.2; omega⟩ 3 (by omega)) (by decide) ⟨leO, leO, trivial⟩ (dp rfl) (ig B _ _) (.inl rfl) ?_
   refine rn2 @hw @Cur.ren ?_
   refine ax.split (fun h2 => ?_) (fun h2 => ?_)
   · refine rn3 @h2 @hw @hw2 ?_
     refine ⟨(n + 1, K ++ [4 * (n : Int)], ff B 3 c1), ⟨by simp only []; omega, by simp only []; omega, by simp only [List.length_append, List.length_singleton]; omega, ⟨hc2.1, by have := hc2.2; simp only []; omega⟩⟩, ?_, by simp only []; omega⟩
     refine aq.cut (2) (by simp) (by simp) ?_ ?_
     · simp [LeC, LeV, ren, bj]
     · simp only [← di]; simp [bz, ck, Cur.ren, ae, ren, IntS.cs]
   · refine rn2 @h2 @hw2 ?_
     refine ⟨(n + 1, K, ff B 3 c1), ⟨by simp only []; omega, by simp only []; omega, by simp only []; omega, ⟨hc2.1, by have := hc2.2; simp only []; omega⟩⟩, ?_, by simp only []; omega⟩
     refine aq.cut (2) (by simp) (by simp) ?_ ?_
     · simp [LeC, LeV, ren, bj]
     · simp [bz, ck, Cur.ren, ae]
 · have hn : n = 7 := by have := of_decide_eq_false h1; omega
   subst hn
   have hp := e9 hB (n := 32) x4.1
   have hc2 := dk (B := B) (n := 32) x4
   have fin : ∀ (K' : List Int) (c' : Cur), K'.length ≤ 10 → c'.le (k + 100) → afm B (k + 100) (.osl 1 0 K'.length 1) [some (c'.cs B), some (rows IntS.cs K')] := fun K' c' h h' => ⟨K', c', h, h', rfl, rfl⟩
   refine ai.df [0] false (jz hB ⟨x4.1, by have := x4.2; omega⟩ 32 (by omega)) (by decide) ⟨leO, leO, trivial⟩ (dp rfl) (ig B _ _) (.inl rfl) ?_
   refine rn1 @Cur.ren ?_
   refine ax.split (fun h2 => ?_) (fun h2 => ?_)
   · refine rn1 @h2 ?_
     have hc3 := dk (B := B) (n := 4) hc2
     have bnd : (ff B 32 c1).le 4611686018427387903 := ⟨hc2.1, by have := hc2.2; omega⟩
     refine ai.df [0, 2] false (oq hB bnd [0, 4, 99, 100] (by decide) (by decide)) (by decide) ⟨leO, leO, trivial⟩ (bq rfl rfl) (bp B _ _) (.inl rfl) ?_
     refine rn1 @Cur.ren ?_
     refine ⟨_, _, fin (K ++ [mz B [0, 4, 99, 100] (ff B 32 c1)]) (ff B 4 (ff B 32 c1)) (by simp only [List.length_append, List.length_singleton]; omega) ⟨hc3.1, by have := hc3.2; omega⟩, ?_⟩
     have hsn : rows IntS.cs K ++ [.int .i64 (mz B [0, 4, 99, 100] (ff B 32 c1))] = rows IntS.cs (K ++ [mz B [0, 4, 99, 100] (ff B 32 c1)]) := di _ _
     rw [List.length_append, List.length_singleton, hsn]
     refine ak.pick [0, 1] (by decide) (fun j hj => by cases j <;> simp_all) (.inl ?_) ?_
     · simp [ren, bc, posOf]
     · simp only [az, List.map_cons, List.map_nil, bg, List.getElem?_cons_zero, List.getElem?_cons_succ, ae, Cur.ren]; rfl
   · refine rn1 @h2 ?_
     refine ax.split (fun h3 => ?_) (fun h3 => ?_)
     · refine rn1 @h3 ?_
       refine dh.intro (fun x : List Int × Cur => x.1.length ≤ 9 ∧ x.2.le (k + 20 + 2 * x.1.length)) (fun x => ⟨(.ptr 0 0 :: .undef :: .undef :: .osl 1 0 x.1.length 1 :: (un 39 [])), [some (x.2.cs B), some (rows IntS.cs x.1)], 1⟩) (fun x => 10 - x.1.length) (K, ff B 32 c1) ⟨by simp only []; omega, ⟨hc2.1, by have := hc2.2; simp only []; omega⟩⟩ ?_ (fun x hx => ?_)
       · refine aq.cut (2) (by simp) (by simp) ?_ ?_
         · simp [LeC, LeV, ren, bj]
         · simp [bz, ck, Cur.ren, ae]
       obtain ⟨K2, c2⟩ := x
       obtain ⟨y1, y2⟩ := hx
       dsimp only at y1 y2
       have hp2 := e9 hB (n := 2) y2.1
       have hc4 := dk (B := B) (n := 2) y2
       refine ev0 ?_
       refine ai.df [0] false (jz hB ⟨y2.1, by have := y2.2; omega⟩ 2 (by omega)) (by decide) ⟨leO, leO, trivial⟩ (dp rfl) (ig B _ _) (.inl rfl) ?_
       generalize hq : iu B 2 c2 = q at *
       have hwq : IntKind.i64.wrap (8 + q) = 8 + q := wrap_i64 (by omega) (by omega)
       have hwl : IntKind.i64.wrap (50 + (K2.length : Int)) = 50 + (K2.length : Int) := wrap_i64 (by omega) (by omega)
       refine rn2 @Cur.ren @hwq ?_
       refine ax.split (fun h4 => ?_) (fun h4 => ?_)
       · refine rn2 @h4 @hwl ?_
         have h4' := of_decide_eq_true h4
         refine ⟨(K2 ++ [50 + (K2.length : Int)], ff B 2 c2), ⟨by simp only [List.length_append, List.length_singleton]; omega, ⟨hc4.1, by have := hc4.2; simp only [List.length_append, List.length_singleton]; omega⟩⟩, ?_, by simp only [List.length_append, List.length_singleton]; omega⟩
         refine aq.cut (2) (by simp) (by simp) ?_ ?_
         · simp [LeC, LeV, ren, bj]
         · simp only [← di]; simp [bz, ck, Cur.ren, ae, ren, IntS.cs]
       · refine rn1 @h4 ?_
         exact ⟨_, _, fin K2 (ff B 2 c2) (by omega) ⟨hc4.1, by have := hc4.2; omega⟩, ak.refl _ _ _⟩
     · refine rn1 @h3 ?_
       exact ⟨_, _, fin K (ff B 32 c1) (by omega) ⟨hc2.1, by have := hc2.2; omega⟩, ak.refl _ _ _⟩
end Go.Proofs
end
section
set_option maxRecDepth 100000
set_option maxHeartbeats 2000000
namespace Go.Proofs
open Go.Lv
def sR (x : Int) : Prop := -1000000000000 ≤ x ∧ x ≤ 1000000000000
def cm.sm (s : cm) : Prop := sR s.Kind ∧ sR s.Number ∧ sR s.Value
def ab.sm (w : ab) : Prop := (∀ p ∈ w.Posts, sR p.Station) ∧ ∀ x ∈ w.Shocks, sR x.Number
def au2 (B : List Int) (k : Int) (r : V) (hout : Hp) : Prop := ∃ (s : cm) (c : Cur), s.sm ∧ c.le k ∧ r = s.v ∧ hout = [some (c.cs B)]
theorem ib {B : List Int} {k : Int} {h : Hp} {K N v : Int} {c : Cur} (h0 : h[0]? = some (some (c.cs B))) (hK : sR K) (hN : sR N) (hv : sR v) (hc : c.le k) : x9 1 (.agg [.int .i64 K, .int .i64 N, .int .i64 v]) h (au2 B k) := by
 refine ⟨_, _, ⟨⟨K, N, v⟩, c, ⟨hK, hN, hv⟩, hc, rfl, rfl⟩, ak.pick [0] (by decide) (fun j hj => by cases j <;> simp_all) (.inl rfl) ?_⟩
 simp only [az, List.map_cons, List.map_nil, bg, h0, Cur.ren]
theorem cf {c : Cur} {a b : Int} (h : c.le a) (hab : a ≤ b) : c.le b := ⟨h.1, Int.le_trans h.2 hab⟩
theorem bo {K : List Int} {v : Int} (h : v ∈ K) (hk : ∀ x ∈ K, bt x) : bt v := hk v h
theorem cu {K : List Int} {v : Int} (h : v ∈ K) (hk : ∀ x ∈ K, sR x) : sR v := hk v h
theorem aaj {B : List Int} (hB : CB B) {k : Int} (hk : k ≤ 1000000) {c : Cur} (hc : c.le k) (w : ab) (hw : w.sm) (hp : w.Posts.length ≤ 1000) (hs : w.Shocks.length ≤ 1000) : ml Tryz.prog 63 [.ptr 0 0, w.v] [some (c.cs B)] (au2 B (k + 20)) := by
 have hcb : ∀ {c' : Cur} {k' : Int}, c'.le k' → k' ≤ 4000000 → c'.le 4611686018427387903 := fun h h' => ⟨h.1, by have := h.2; omega⟩
 refine ml.intro Tryz.mixed Tryz.func63 rfl Tryz.avo ?_
 refine ev2 @Tryz.ntmps63 @Tryz.results63 ?_
 refine rn1 @ab.v.eq_1 ?_
 refine an hB hc (by omega) [1, 1, 2, 3, 4, 4, 5, 6, 7, 8] (by simp) (by simp) rfl rfl rfl (fun vc1 c1 pvc1 hc1 => ?_)
 have hk1 : sR vc1 := cu pvc1 (by simp [sR])
 refine rn1 @Cur.ren ?_
 refine ax.split (fun h1 => ?_) (fun h1 => ?_)
 · have h1' := of_decide_eq_true h1
   obtain ⟨i, hi⟩ : ∃ i : Nat, iu B w.Posts.length c1 = i := ⟨(iu B w.Posts.length c1).toNat, by have := (e9 hB (n := w.Posts.length) hc1.1).1; omega⟩
   have hi' : i < w.Posts.length := by have := (e9 hB (n := w.Posts.length) hc1.1).2; omega
   have hr0 := xp (cs := bf.cs) bf.csl hi'
   refine rn1 @h1 ?_
   refine clT.tree (fun s2 => ∃ (st : Int) (c2 : Cur), sR st ∧ c2.le (k + 4) ∧ s2 = ⟨(.ptr 0 0 :: .undef :: .undef :: .ptr 1 0 :: .ptr 2 0 :: .int .i64 1 :: .int .i64 st :: .int .i64 vc1 :: (un 95 [])), [some (c2.cs B), some w.cs, some [.int .i64 0, .int .i64 0, .int .i64 0]], 1⟩) (.take 0 (.take 2 (.take 3 (.alt 1 (.alt 4 (.alt 5 (.alt 6 (.take 7 (.take 8 (.alt 9 (.alt 10 .done .stop) .stop))) .stop) .stop) .stop) (.alt 4 (.alt 1 (.alt 5 (.alt 6 (.take 7 (.take 8 (.alt 9 (.alt 10 .done .stop) .stop))) .stop) .stop) (.alt 5 (.alt 1 (.alt 6 (.take 7 (.take 8 (.alt 9 (.alt 10 .done .stop) .stop))) .stop) (.alt 6 (.alt 1 (.take 7 (.take 8 (.alt 9 (.alt 10 .done .stop) .stop))) .stop) .stop)) .stop)) .stop))))) (by kernel_rfl) (fun s2 hs2 => ?_) ?_
   · obtain ⟨st, c2, hst, hc2, rfl⟩ := hs2
     have hst1 : st = st := rfl
     refine rn1 @ab.cs.eq_1 ?_
     refine ax.split (fun h2 => ?_) (fun h2 => ?_)
     · have h2' := of_decide_eq_true h2
       obtain ⟨j, hj⟩ : ∃ j : Nat, iu B w.Shocks.length c2 = j := ⟨(iu B w.Shocks.length c2).toNat, by have := (e9 hB (n := w.Shocks.length) hc2.1).1; omega⟩
       have hj' : j < w.Shocks.length := by have := (e9 hB (n := w.Shocks.length) hc2.1).2; omega
       have hr0 := bw aj.csl hj'
       refine rn1 @h2 ?_
       refine clT.tree (fun s2 => ∃ (c3 : Cur), c3.le (k + 6) ∧ s2 = ⟨(.ptr 0 0 :: .undef :: .undef :: .ptr 1 0 :: .ptr 2 0 :: .int .i64 1 :: .int .i64 st :: .int .i64 vc1 :: .ptr 3 0 :: (un 94 [])), [some (c3.cs B), some w.cs, some [.int .i64 0, .int .i64 0, .int .i64 0], some w.Shocks[j].cs], 1⟩) (.take 0 (.take 2 (.take 3 (.alt 1 (.alt 4 (.alt 5 (.alt 6 (.take 7 (.alt 8 (.alt 9 (.alt 10 .done .stop) .stop) (.alt 9 (.alt 8 (.alt 10 .done .stop) .stop) .stop))) (.alt 9 (.alt 6 (.take 7 (.alt 8 (.alt 10 .done .stop) .stop)) .stop) .stop)) (.alt 9 (.alt 5 (.alt 6 (.take 7 (.alt 8 (.alt 10 .done .stop) .stop)) .stop) .stop) .stop)) (.alt 9 (.alt 4 (.alt 5 (.alt 6 (.take 7 (.alt 8 (.alt 10 .done .stop) .stop)) .stop) .stop) .stop) .stop)) (.alt 4 (.alt 1 (.alt 5 (.alt 6 (.take 7 (.alt 8 (.alt 9 (.alt 10 .done .stop) .stop) (.alt 9 (.alt 8 (.alt 10 .done .stop) .stop) .stop))) (.alt 9 (.alt 6 (.take 7 (.alt 8 (.alt 10 .done .stop) .stop)) .stop) .stop)) (.alt 9 (.alt 5 (.alt 6 (.take 7 (.alt 8 (.alt 10 .done .stop) .stop)) .stop) .stop) .stop)) (.alt 5 (.alt 1 (.alt 6 (.take 7 (.alt 8 (.alt 9 (.alt 10 .done .stop) .stop) (.alt 9 (.alt 8 (.alt 10 .done .stop) .stop) .stop))) (.alt 9 (.alt 6 (.take 7 (.alt 8 (.alt 10 .done .stop) .stop)) .stop) .stop)) (.alt 6 (.alt 1 (.take 7 (.alt 8 (.alt 9 (.alt 10 .done .stop) .stop) (.alt 9 (.alt 8 (.alt 10 .done .stop) .stop) .stop))) (.alt 9 (.alt 1 (.take 7 (.alt 8 (.alt 10 .done .stop) .stop)) .stop) .stop)) (.alt 9 (.alt 1 (.alt 6 (.take 7 (.alt 8 (.alt 10 .done .stop) .stop)) .stop) (.alt 6 (.alt 1 (.take 7 (.alt 8 (.alt 10 .done .stop) .stop)) .stop) .stop)) .stop))) (.alt 9 (.alt 1 (.alt 5 (.alt 6 (.take 7 (.alt 8 (.alt 10 .done .stop) .stop)) .stop) .stop) (.alt 5 (.alt 1 (.alt 6 (.take 7 (.alt 8 (.alt 10 .done .stop) .stop)) .stop) (.alt 6 (.alt 1 (.take 7 (.alt 8 (.alt 10 .done .stop) .stop)) .stop) .stop)) .stop)) .stop))) (.alt 9 (.alt 1 (.alt 4 (.alt 5 (.alt 6 (.take 7 (.alt 8 (.alt 10 .done .stop) .stop)) .stop) .stop) .stop) (.alt 4 (.alt 1 (.alt 5 (.alt 6 (.take 7 (.alt 8 (.alt 10 .done .stop) .stop)) .stop) .stop) (.alt 5 (.alt 1 (.alt 6 (.take 7 (.alt 8 (.alt 10 .done .stop) .stop)) .stop) (.alt 6 (.alt 1 (.take 7 (.alt 8 (.alt 10 .done .stop) .stop)) .stop) .stop)) .stop)) .stop)) .stop)))))) (by kernel_rfl) (fun s2 hs2 => ?_) ?_
       · obtain ⟨c8, hc8, rfl⟩ := hs2
         have hnm : sR w.Shocks[j].Number := hw.2 _ (List.getElem_mem hj')
         refine rn1 @aj.cs.eq_1 ?_
         generalize w.Shocks[j].Number = nm at hnm ⊢
         generalize w.Shocks[j].State = sv
         refine dy hB hc8 (by omega) 2 (by omega) rfl (fun vc3 c3 hc3 => ?_)
         refine rn1 @Cur.ren ?_
         refine aw.split (fun h7 => ?_) (fun h7 => ?_) <;> refine rn2 @h7 @Cur.ren ?_
         · (first | refine al.at (dx _ _ _) ⟨leA, leA, leA, trivial⟩ ?_ | refine ai.at (dx _ _ _) ⟨leA, leA, leA, trivial⟩ ?_)
           refine rn0 ?_
           refine ax.split (fun h8 => ?_) (fun h8 => ?_)
           · have hsv : sv = 0 ∨ sv = 1 ∨ sv = 2 ∨ sv = 3 := by simp [fb] at h8; omega
             rcases hsv with rfl | rfl | rfl | rfl
             all_goals
              refine rn1 @h8 ?_
              refine dy hB hc3 (by omega) 40 (by omega) rfl (fun vc4 c4 hc4 => ?_)
              refine rn1 @Cur.ren ?_
              refine ax.split (fun h5 => ?_) (fun h5 => ?_)
              · refine rn1 @h5 ?_
                refine an hB hc4 (by omega) [0, 9, 6] (by simp) (by simp) rfl rfl rfl (fun vc5 c5 pvc5 hc5 => ?_)
                refine rn1 @Cur.ren ?_
                refine an hB hc5 (by omega) [0, nm, 999] (by simp) (by simp) rfl rfl rfl (fun vc6 c6 pvc6 hc6 => ?_)
                refine rn1 @Cur.ren ?_
                refine an hB hc6 (by omega) [0, 1, -1] (by simp) (by simp) rfl rfl rfl (fun vc7 c7 pvc7 hc7 => ?_)
                refine rn1 @Cur.ren ?_
                exact ib rfl (cu pvc5 (by simp [sR])) (cu pvc6 (by intro x hx; simp at hx; rcases hx with rfl | rfl | rfl <;> first | assumption | simp [sR])) (cu pvc7 (by simp [sR])) (cf hc7 (by omega))
              · refine rn1 @h5 ?_
                repeat' (first | (refine ax.split (fun h6 => ?_) (fun h6 => ?_) <;> refine rn2 @h6 @Cur.ren ?_) | (exact ib rfl (by first | assumption | (simp [sR]; done) | exact cu pvc5 (by simp [sR])) (by first | assumption | (simp [sR]; done) | exact cu pvc5 (by simp [sR])) (by first | assumption | (simp [sR]; done) | exact cu pvc5 (by simp [sR])) (by first | exact cf hc5 (by omega) | exact cf hc4 (by omega))) | (refine an hB hc4 (by omega) [1, 100, 6000, 6001, 1000001, 0] (by simp) (by simp) rfl rfl rfl (fun vc5 c5 pvc5 hc5 => ?_); refine rn1 @Cur.ren ?_) | (refine an hB hc4 (by omega) [-20, 12, 30, 49, 50, 95, 96] (by simp) (by simp) rfl rfl rfl (fun vc5 c5 pvc5 hc5 => ?_); refine rn1 @Cur.ren ?_) | (refine an hB hc4 (by omega) [0, 1, -3, 10, -10, 11] (by simp) (by simp) rfl rfl rfl (fun vc5 c5 pvc5 hc5 => ?_); refine rn1 @Cur.ren ?_))
           · refine rn1 @h8 ?_
             refine dy hB hc3 (by omega) 40 (by omega) rfl (fun vc4 c4 hc4 => ?_)
             refine rn1 @Cur.ren ?_
             refine ax.split (fun h5 => ?_) (fun h5 => ?_)
             · refine rn1 @h5 ?_
               refine an hB hc4 (by omega) [0, 9, 6] (by simp) (by simp) rfl rfl rfl (fun vc5 c5 pvc5 hc5 => ?_)
               refine rn1 @Cur.ren ?_
               refine an hB hc5 (by omega) [0, nm, 999] (by simp) (by simp) rfl rfl rfl (fun vc6 c6 pvc6 hc6 => ?_)
               refine rn1 @Cur.ren ?_
               refine an hB hc6 (by omega) [0, 1, -1] (by simp) (by simp) rfl rfl rfl (fun vc7 c7 pvc7 hc7 => ?_)
               refine rn1 @Cur.ren ?_
               exact ib rfl (cu pvc5 (by simp [sR])) (cu pvc6 (by intro x hx; simp at hx; rcases hx with rfl | rfl | rfl <;> first | assumption | simp [sR])) (cu pvc7 (by simp [sR])) (cf hc7 (by omega))
             · refine rn1 @h5 ?_
               repeat' (first | (refine ax.split (fun h6 => ?_) (fun h6 => ?_) <;> refine rn2 @h6 @Cur.ren ?_) | (exact ib rfl (by first | assumption | (simp [sR]; done) | exact cu pvc5 (by simp [sR])) (by first | assumption | (simp [sR]; done) | exact cu pvc5 (by simp [sR])) (by first | assumption | (simp [sR]; done) | exact cu pvc5 (by simp [sR])) (by first | exact cf hc5 (by omega) | exact cf hc4 (by omega))) | (refine an hB hc4 (by omega) [1, 100, 6000, 6001, 1000001, 0] (by simp) (by simp) rfl rfl rfl (fun vc5 c5 pvc5 hc5 => ?_); refine rn1 @Cur.ren ?_) | (refine an hB hc4 (by omega) [-20, 12, 30, 49, 50, 95, 96] (by simp) (by simp) rfl rfl rfl (fun vc5 c5 pvc5 hc5 => ?_); refine rn1 @Cur.ren ?_) | (refine an hB hc4 (by omega) [0, 1, -3, 10, -10, 11] (by simp) (by simp) rfl rfl rfl (fun vc5 c5 pvc5 hc5 => ?_); refine rn1 @Cur.ren ?_))
         · skip
           refine dy hB hc3 (by omega) 40 (by omega) rfl (fun vc4 c4 hc4 => ?_)
           refine rn1 @Cur.ren ?_
           refine ax.split (fun h5 => ?_) (fun h5 => ?_)
           · refine rn1 @h5 ?_
             refine an hB hc4 (by omega) [0, 9, 6] (by simp) (by simp) rfl rfl rfl (fun vc5 c5 pvc5 hc5 => ?_)
             refine rn1 @Cur.ren ?_
             refine an hB hc5 (by omega) [0, nm, 999] (by simp) (by simp) rfl rfl rfl (fun vc6 c6 pvc6 hc6 => ?_)
             refine rn1 @Cur.ren ?_
             refine an hB hc6 (by omega) [0, 1, -1] (by simp) (by simp) rfl rfl rfl (fun vc7 c7 pvc7 hc7 => ?_)
             refine rn1 @Cur.ren ?_
             exact ib rfl (cu pvc5 (by simp [sR])) (cu pvc6 (by intro x hx; simp at hx; rcases hx with rfl | rfl | rfl <;> first | assumption | simp [sR])) (cu pvc7 (by simp [sR])) (cf hc7 (by omega))
           · refine rn1 @h5 ?_
             repeat' (first | (refine ax.split (fun h6 => ?_) (fun h6 => ?_) <;> refine rn2 @h6 @Cur.ren ?_) | (exact ib rfl (by first | assumption | (simp [sR]; done) | exact cu pvc5 (by simp [sR])) (by first | assumption | (simp [sR]; done) | exact cu pvc5 (by simp [sR])) (by first | assumption | (simp [sR]; done) | exact cu pvc5 (by simp [sR])) (by first | exact cf hc5 (by omega) | exact cf hc4 (by omega))) | (refine an hB hc4 (by omega) [1, 100, 6000, 6001, 1000001, 0] (by simp) (by simp) rfl rfl rfl (fun vc5 c5 pvc5 hc5 => ?_); refine rn1 @Cur.ren ?_) | (refine an hB hc4 (by omega) [-20, 12, 30, 49, 50, 95, 96] (by simp) (by simp) rfl rfl rfl (fun vc5 c5 pvc5 hc5 => ?_); refine rn1 @Cur.ren ?_) | (refine an hB hc4 (by omega) [0, 1, -3, 10, -10, 11] (by simp) (by simp) rfl rfl rfl (fun vc5 c5 pvc5 hc5 => ?_); refine rn1 @Cur.ren ?_))
       · have pk := jz hB (hcb hc2 (by omega)) w.Shocks.length (by omega)
         have hq := dk (B := B) (n := w.Shocks.length) hc2
         rw [hj] at pk
         generalize ff B w.Shocks.length c2 = c3 at pk hq
         refine rn0 ?_
         repeat' (first | (refine ai.df [0] false pk (by decide) ⟨leO, leO, trivial⟩ (dp rfl) (ig B _ _) (.inl rfl) ?_; refine rn3 @hr0 @aj.cs.eq_1 @Cur.ren ?_) | (refine And.intro ?_ ?_) | exact trivial)
         all_goals
          refine ⟨_, ⟨c3, cf hq (by omega), rfl⟩, ?_⟩
          first
          | (refine aq.cut 4 (by simp) (by simp) ?_ ?_
             · (simp [LeC, LeV, ren, bj, hst1]; done)
             · (simp [bz, ck, Cur.ren, ren, ab.cs, ae, aj.cs]; done))
          | (refine aq.pick [0, 1, 2, 4] (by decide) (fun j hj => by cases j <;> simp_all) ?_ ?_
             · (simp [LeG, LeC, LeV, ren, bc, posOf, hst1]; done)
             · (simp [az, bg, Cur.ren, ren, ab.cs, ae, aj.cs]; done))
     · refine rn1 @h2 ?_
       obtain ⟨c3, ec3⟩ : ∃ x, x = c2 := ⟨_, rfl⟩
       have hc3 : c3.le (k + 6) := by rw [ec3]; exact cf hc2 (by omega)
       rw [← ec3]
       refine dy hB hc3 (by omega) 40 (by omega) rfl (fun vc4 c4 hc4 => ?_)
       refine rn1 @Cur.ren ?_
       refine ax.split (fun h5 => ?_) (fun h5 => ?_)
       · refine rn1 @h5 ?_
         refine an hB hc4 (by omega) [0, 9, 6] (by simp) (by simp) rfl rfl rfl (fun vc5 c5 pvc5 hc5 => ?_)
         refine rn1 @Cur.ren ?_
         refine an hB hc5 (by omega) [0, 1, 999] (by simp) (by simp) rfl rfl rfl (fun vc6 c6 pvc6 hc6 => ?_)
         refine rn1 @Cur.ren ?_
         refine an hB hc6 (by omega) [0, 1, -1] (by simp) (by simp) rfl rfl rfl (fun vc7 c7 pvc7 hc7 => ?_)
         refine rn1 @Cur.ren ?_
         exact ib rfl (cu pvc5 (by simp [sR])) (cu pvc6 (by intro x hx; simp at hx; rcases hx with rfl | rfl | rfl <;> first | assumption | simp [sR])) (cu pvc7 (by simp [sR])) (cf hc7 (by omega))
       · refine rn1 @h5 ?_
         repeat' (first | (refine ax.split (fun h6 => ?_) (fun h6 => ?_) <;> refine rn2 @h6 @Cur.ren ?_) | (exact ib rfl (by first | assumption | (simp [sR]; done) | exact cu pvc5 (by simp [sR])) (by first | assumption | (simp [sR]; done) | exact cu pvc5 (by simp [sR])) (by first | assumption | (simp [sR]; done) | exact cu pvc5 (by simp [sR])) (by first | exact cf hc5 (by omega) | exact cf hc4 (by omega))) | (refine an hB hc4 (by omega) [1, 100, 6000, 6001, 1000001, 0] (by simp) (by simp) rfl rfl rfl (fun vc5 c5 pvc5 hc5 => ?_); refine rn1 @Cur.ren ?_) | (refine an hB hc4 (by omega) [-20, 12, 30, 49, 50, 95, 96] (by simp) (by simp) rfl rfl rfl (fun vc5 c5 pvc5 hc5 => ?_); refine rn1 @Cur.ren ?_) | (refine an hB hc4 (by omega) [0, 1, -3, 10, -10, 11] (by simp) (by simp) rfl rfl rfl (fun vc5 c5 pvc5 hc5 => ?_); refine rn1 @Cur.ren ?_))
   · have pk := jz hB (hcb hc1 (by omega)) w.Posts.length (by omega)
     have hq := dk (B := B) (n := w.Posts.length) hc1
     rw [hi] at pk
     generalize ff B w.Posts.length c1 = c2 at pk hq
     have hok := hw.1 _ (List.getElem_mem hi')
     refine rn0 ?_
     repeat' (first | (refine ai.df [0] false pk (by decide) ⟨leO, leO, trivial⟩ (dp rfl) (ig B _ _) (.inl rfl) ?_; refine rn3 @hr0 @bf.cs.eq_1 @Cur.ren ?_) | (refine And.intro ?_ ?_) | exact trivial)
     all_goals
      refine ⟨_, ⟨w.Posts[i].Station, c2, hok, cf hq (by omega), rfl⟩, ?_⟩
      refine aq.cut (3) (by simp) (by simp) ?_ ?_
      · simp [LeC, LeV, ren, bj]
      · simp [bz, ck, Cur.ren, ren, ab.cs, ae]
 · refine rn1 @h1 ?_
   obtain ⟨c2, ec2⟩ : ∃ x, x = c1 := ⟨_, rfl⟩
   rw [← ec2] at hc1 ⊢
   have hc2 : c2.le (k + 4) := cf hc1 (by omega)
   obtain ⟨st, hst1⟩ : ∃ x : Int, x = 1 := ⟨1, rfl⟩
   have hst : sR st := by rw [hst1]; simp [sR]
   refine ax.split (fun h2 => ?_) (fun h2 => ?_)
   · have h2' := of_decide_eq_true h2
     obtain ⟨j, hj⟩ : ∃ j : Nat, iu B w.Shocks.length c2 = j := ⟨(iu B w.Shocks.length c2).toNat, by have := (e9 hB (n := w.Shocks.length) hc2.1).1; omega⟩
     have hj' : j < w.Shocks.length := by have := (e9 hB (n := w.Shocks.length) hc2.1).2; omega
     have hr0 := bw aj.csl hj'
     refine rn1 @h2 ?_
     refine clT.tree (fun s2 => ∃ (c3 : Cur), c3.le (k + 6) ∧ s2 = ⟨(.ptr 0 0 :: .undef :: .undef :: .ptr 1 0 :: .ptr 2 0 :: .int .i64 1 :: .int .i64 st :: .int .i64 vc1 :: .ptr 3 0 :: (un 94 [])), [some (c3.cs B), some w.cs, some [.int .i64 0, .int .i64 0, .int .i64 0], some w.Shocks[j].cs], 1⟩) (.take 0 (.take 2 (.take 3 (.alt 1 (.alt 4 (.alt 5 (.alt 6 (.take 7 (.alt 8 (.alt 9 (.alt 10 .done .stop) .stop) (.alt 9 (.alt 8 (.alt 10 .done .stop) .stop) .stop))) (.alt 9 (.alt 6 (.take 7 (.alt 8 (.alt 10 .done .stop) .stop)) .stop) .stop)) (.alt 9 (.alt 5 (.alt 6 (.take 7 (.alt 8 (.alt 10 .done .stop) .stop)) .stop) .stop) .stop)) (.alt 9 (.alt 4 (.alt 5 (.alt 6 (.take 7 (.alt 8 (.alt 10 .done .stop) .stop)) .stop) .stop) .stop) .stop)) (.alt 4 (.alt 1 (.alt 5 (.alt 6 (.take 7 (.alt 8 (.alt 9 (.alt 10 .done .stop) .stop) (.alt 9 (.alt 8 (.alt 10 .done .stop) .stop) .stop))) (.alt 9 (.alt 6 (.take 7 (.alt 8 (.alt 10 .done .stop) .stop)) .stop) .stop)) (.alt 9 (.alt 5 (.alt 6 (.take 7 (.alt 8 (.alt 10 .done .stop) .stop)) .stop) .stop) .stop)) (.alt 5 (.alt 1 (.alt 6 (.take 7 (.alt 8 (.alt 9 (.alt 10 .done .stop) .stop) (.alt 9 (.alt 8 (.alt 10 .done .stop) .stop) .stop))) (.alt 9 (.alt 6 (.take 7 (.alt 8 (.alt 10 .done .stop) .stop)) .stop) .stop)) (.alt 6 (.alt 1 (.take 7 (.alt 8 (.alt 9 (.alt 10 .done .stop) .stop) (.alt 9 (.alt 8 (.alt 10 .done .stop) .stop) .stop))) (.alt 9 (.alt 1 (.take 7 (.alt 8 (.alt 10 .done .stop) .stop)) .stop) .stop)) (.alt 9 (.alt 1 (.alt 6 (.take 7 (.alt 8 (.alt 10 .done .stop) .stop)) .stop) (.alt 6 (.alt 1 (.take 7 (.alt 8 (.alt 10 .done .stop) .stop)) .stop) .stop)) .stop))) (.alt 9 (.alt 1 (.alt 5 (.alt 6 (.take 7 (.alt 8 (.alt 10 .done .stop) .stop)) .stop) .stop) (.alt 5 (.alt 1 (.alt 6 (.take 7 (.alt 8 (.alt 10 .done .stop) .stop)) .stop) (.alt 6 (.alt 1 (.take 7 (.alt 8 (.alt 10 .done .stop) .stop)) .stop) .stop)) .stop)) .stop))) (.alt 9 (.alt 1 (.alt 4 (.alt 5 (.alt 6 (.take 7 (.alt 8 (.alt 10 .done .stop) .stop)) .stop) .stop) .stop) (.alt 4 (.alt 1 (.alt 5 (.alt 6 (.take 7 (.alt 8 (.alt 10 .done .stop) .stop)) .stop) .stop) (.alt 5 (.alt 1 (.alt 6 (.take 7 (.alt 8 (.alt 10 .done .stop) .stop)) .stop) (.alt 6 (.alt 1 (.take 7 (.alt 8 (.alt 10 .done .stop) .stop)) .stop) .stop)) .stop)) .stop)) .stop)))))) (by kernel_rfl) (fun s2 hs2 => ?_) ?_
     · obtain ⟨c8, hc8, rfl⟩ := hs2
       have hnm : sR w.Shocks[j].Number := hw.2 _ (List.getElem_mem hj')
       refine rn1 @aj.cs.eq_1 ?_
       generalize w.Shocks[j].Number = nm at hnm ⊢
       generalize w.Shocks[j].State = sv
       refine dy hB hc8 (by omega) 2 (by omega) rfl (fun vc3 c3 hc3 => ?_)
       refine rn1 @Cur.ren ?_
       refine aw.split (fun h7 => ?_) (fun h7 => ?_) <;> refine rn2 @h7 @Cur.ren ?_
       · (first | refine al.at (dx _ _ _) ⟨leA, leA, leA, trivial⟩ ?_ | refine ai.at (dx _ _ _) ⟨leA, leA, leA, trivial⟩ ?_)
         refine rn0 ?_
         refine ax.split (fun h8 => ?_) (fun h8 => ?_)
         · have hsv : sv = 0 ∨ sv = 1 ∨ sv = 2 ∨ sv = 3 := by simp [fb] at h8; omega
           rcases hsv with rfl | rfl | rfl | rfl
           all_goals
            refine rn1 @h8 ?_
            refine dy hB hc3 (by omega) 40 (by omega) rfl (fun vc4 c4 hc4 => ?_)
            refine rn1 @Cur.ren ?_
            refine ax.split (fun h5 => ?_) (fun h5 => ?_)
            · refine rn1 @h5 ?_
              refine an hB hc4 (by omega) [0, 9, 6] (by simp) (by simp) rfl rfl rfl (fun vc5 c5 pvc5 hc5 => ?_)
              refine rn1 @Cur.ren ?_
              refine an hB hc5 (by omega) [0, nm, 999] (by simp) (by simp) rfl rfl rfl (fun vc6 c6 pvc6 hc6 => ?_)
              refine rn1 @Cur.ren ?_
              refine an hB hc6 (by omega) [0, 1, -1] (by simp) (by simp) rfl rfl rfl (fun vc7 c7 pvc7 hc7 => ?_)
              refine rn1 @Cur.ren ?_
              exact ib rfl (cu pvc5 (by simp [sR])) (cu pvc6 (by intro x hx; simp at hx; rcases hx with rfl | rfl | rfl <;> first | assumption | simp [sR])) (cu pvc7 (by simp [sR])) (cf hc7 (by omega))
            · refine rn1 @h5 ?_
              repeat' (first | (refine ax.split (fun h6 => ?_) (fun h6 => ?_) <;> refine rn2 @h6 @Cur.ren ?_) | (exact ib rfl (by first | assumption | (simp [sR]; done) | exact cu pvc5 (by simp [sR])) (by first | assumption | (simp [sR]; done) | exact cu pvc5 (by simp [sR])) (by first | assumption | (simp [sR]; done) | exact cu pvc5 (by simp [sR])) (by first | exact cf hc5 (by omega) | exact cf hc4 (by omega))) | (refine an hB hc4 (by omega) [1, 100, 6000, 6001, 1000001, 0] (by simp) (by simp) rfl rfl rfl (fun vc5 c5 pvc5 hc5 => ?_); refine rn1 @Cur.ren ?_) | (refine an hB hc4 (by omega) [-20, 12, 30, 49, 50, 95, 96] (by simp) (by simp) rfl rfl rfl (fun vc5 c5 pvc5 hc5 => ?_); refine rn1 @Cur.ren ?_) | (refine an hB hc4 (by omega) [0, 1, -3, 10, -10, 11] (by simp) (by simp) rfl rfl rfl (fun vc5 c5 pvc5 hc5 => ?_); refine rn1 @Cur.ren ?_))
         · refine rn1 @h8 ?_
           refine dy hB hc3 (by omega) 40 (by omega) rfl (fun vc4 c4 hc4 => ?_)
           refine rn1 @Cur.ren ?_
           refine ax.split (fun h5 => ?_) (fun h5 => ?_)
           · refine rn1 @h5 ?_
             refine an hB hc4 (by omega) [0, 9, 6] (by simp) (by simp) rfl rfl rfl (fun vc5 c5 pvc5 hc5 => ?_)
             refine rn1 @Cur.ren ?_
             refine an hB hc5 (by omega) [0, nm, 999] (by simp) (by simp) rfl rfl rfl (fun vc6 c6 pvc6 hc6 => ?_)
             refine rn1 @Cur.ren ?_
             refine an hB hc6 (by omega) [0, 1, -1] (by simp) (by simp) rfl rfl rfl (fun vc7 c7 pvc7 hc7 => ?_)
             refine rn1 @Cur.ren ?_
             exact ib rfl (cu pvc5 (by simp [sR])) (cu pvc6 (by intro x hx; simp at hx; rcases hx with rfl | rfl | rfl <;> first | assumption | simp [sR])) (cu pvc7 (by simp [sR])) (cf hc7 (by omega))
           · refine rn1 @h5 ?_
             repeat' (first | (refine ax.split (fun h6 => ?_) (fun h6 => ?_) <;> refine rn2 @h6 @Cur.ren ?_) | (exact ib rfl (by first | assumption | (simp [sR]; done) | exact cu pvc5 (by simp [sR])) (by first | assumption | (simp [sR]; done) | exact cu pvc5 (by simp [sR])) (by first | assumption | (simp [sR]; done) | exact cu pvc5 (by simp [sR])) (by first | exact cf hc5 (by omega) | exact cf hc4 (by omega))) | (refine an hB hc4 (by omega) [1, 100, 6000, 6001, 1000001, 0] (by simp) (by simp) rfl rfl rfl (fun vc5 c5 pvc5 hc5 => ?_); refine rn1 @Cur.ren ?_) | (refine an hB hc4 (by omega) [-20, 12, 30, 49, 50, 95, 96] (by simp) (by simp) rfl rfl rfl (fun vc5 c5 pvc5 hc5 => ?_); refine rn1 @Cur.ren ?_) | (refine an hB hc4 (by omega) [0, 1, -3, 10, -10, 11] (by simp) (by simp) rfl rfl rfl (fun vc5 c5 pvc5 hc5 => ?_); refine rn1 @Cur.ren ?_))
       · skip
         refine dy hB hc3 (by omega) 40 (by omega) rfl (fun vc4 c4 hc4 => ?_)
         refine rn1 @Cur.ren ?_
         refine ax.split (fun h5 => ?_) (fun h5 => ?_)
         · refine rn1 @h5 ?_
           refine an hB hc4 (by omega) [0, 9, 6] (by simp) (by simp) rfl rfl rfl (fun vc5 c5 pvc5 hc5 => ?_)
           refine rn1 @Cur.ren ?_
           refine an hB hc5 (by omega) [0, nm, 999] (by simp) (by simp) rfl rfl rfl (fun vc6 c6 pvc6 hc6 => ?_)
           refine rn1 @Cur.ren ?_
           refine an hB hc6 (by omega) [0, 1, -1] (by simp) (by simp) rfl rfl rfl (fun vc7 c7 pvc7 hc7 => ?_)
           refine rn1 @Cur.ren ?_
           exact ib rfl (cu pvc5 (by simp [sR])) (cu pvc6 (by intro x hx; simp at hx; rcases hx with rfl | rfl | rfl <;> first | assumption | simp [sR])) (cu pvc7 (by simp [sR])) (cf hc7 (by omega))
         · refine rn1 @h5 ?_
           repeat' (first | (refine ax.split (fun h6 => ?_) (fun h6 => ?_) <;> refine rn2 @h6 @Cur.ren ?_) | (exact ib rfl (by first | assumption | (simp [sR]; done) | exact cu pvc5 (by simp [sR])) (by first | assumption | (simp [sR]; done) | exact cu pvc5 (by simp [sR])) (by first | assumption | (simp [sR]; done) | exact cu pvc5 (by simp [sR])) (by first | exact cf hc5 (by omega) | exact cf hc4 (by omega))) | (refine an hB hc4 (by omega) [1, 100, 6000, 6001, 1000001, 0] (by simp) (by simp) rfl rfl rfl (fun vc5 c5 pvc5 hc5 => ?_); refine rn1 @Cur.ren ?_) | (refine an hB hc4 (by omega) [-20, 12, 30, 49, 50, 95, 96] (by simp) (by simp) rfl rfl rfl (fun vc5 c5 pvc5 hc5 => ?_); refine rn1 @Cur.ren ?_) | (refine an hB hc4 (by omega) [0, 1, -3, 10, -10, 11] (by simp) (by simp) rfl rfl rfl (fun vc5 c5 pvc5 hc5 => ?_); refine rn1 @Cur.ren ?_))
     · have pk := jz hB (hcb hc2 (by omega)) w.Shocks.length (by omega)
       have hq := dk (B := B) (n := w.Shocks.length) hc2
       rw [hj] at pk
       generalize ff B w.Shocks.length c2 = c3 at pk hq
       refine rn0 ?_
       repeat' (first | (refine ai.df [0] false pk (by decide) ⟨leO, leO, trivial⟩ (dp rfl) (ig B _ _) (.inl rfl) ?_; refine rn3 @hr0 @aj.cs.eq_1 @Cur.ren ?_) | (refine And.intro ?_ ?_) | exact trivial)
       all_goals
        refine ⟨_, ⟨c3, cf hq (by omega), rfl⟩, ?_⟩
        first
        | (refine aq.cut 4 (by simp) (by simp) ?_ ?_
           · (simp [LeC, LeV, ren, bj, hst1]; done)
           · (simp [bz, ck, Cur.ren, ren, ab.cs, ae, aj.cs]; done))
        | (refine aq.pick [0, 1, 2, 4] (by decide) (fun j hj => by cases j <;> simp_all) ?_ ?_
           · (simp [LeG, LeC, LeV, ren, bc, posOf, hst1]; done)
           · (simp [az, bg, Cur.ren, ren, ab.cs, ae, aj.cs]; done))
   · refine rn1 @h2 ?_
     obtain ⟨c3, ec3⟩ : ∃ x, x = c2 := ⟨_, rfl⟩
     have hc3 : c3.le (k + 6) := by rw [ec3]; exact cf hc2 (by omega)
     rw [← ec3]
     refine dy hB hc3 (by omega) 40 (by omega) rfl (fun vc4 c4 hc4 => ?_)
     refine rn1 @Cur.ren ?_
     refine ax.split (fun h5 => ?_) (fun h5 => ?_)
     · refine rn1 @h5 ?_
       refine an hB hc4 (by omega) [0, 9, 6] (by simp) (by simp) rfl rfl rfl (fun vc5 c5 pvc5 hc5 => ?_)
       refine rn1 @Cur.ren ?_
       refine an hB hc5 (by omega) [0, 1, 999] (by simp) (by simp) rfl rfl rfl (fun vc6 c6 pvc6 hc6 => ?_)
       refine rn1 @Cur.ren ?_
       refine an hB hc6 (by omega) [0, 1, -1] (by simp) (by simp) rfl rfl rfl (fun vc7 c7 pvc7 hc7 => ?_)
       refine rn1 @Cur.ren ?_
       exact ib rfl (cu pvc5 (by simp [sR])) (cu pvc6 (by intro x hx; simp at hx; rcases hx with rfl | rfl | rfl <;> first | assumption | simp [sR])) (cu pvc7 (by simp [sR])) (cf hc7 (by omega))
     · refine rn1 @h5 ?_
       repeat' (first | (refine ax.split (fun h6 => ?_) (fun h6 => ?_) <;> refine rn2 @h6 @Cur.ren ?_) | (exact ib rfl (by first | assumption | (simp [sR]; done) | exact cu pvc5 (by simp [sR])) (by first | assumption | (simp [sR]; done) | exact cu pvc5 (by simp [sR])) (by first | assumption | (simp [sR]; done) | exact cu pvc5 (by simp [sR])) (by first | exact cf hc5 (by omega) | exact cf hc4 (by omega))) | (refine an hB hc4 (by omega) [1, 100, 6000, 6001, 1000001, 0] (by simp) (by simp) rfl rfl rfl (fun vc5 c5 pvc5 hc5 => ?_); refine rn1 @Cur.ren ?_) | (refine an hB hc4 (by omega) [-20, 12, 30, 49, 50, 95, 96] (by simp) (by simp) rfl rfl rfl (fun vc5 c5 pvc5 hc5 => ?_); refine rn1 @Cur.ren ?_) | (refine an hB hc4 (by omega) [0, 1, -3, 10, -10, 11] (by simp) (by simp) rfl rfl rfl (fun vc5 c5 pvc5 hc5 => ?_); refine rn1 @Cur.ren ?_))
end Go.Proofs
end
section
set_option maxRecDepth 100000
set_option maxHeartbeats 2000000
namespace Go.Proofs
open Go.Lv
def ab.mc (r : ab) (i : Nat) : List V := [.int .i64 r.Now, .sl r.Posts.length 3 (rows bf.cs r.Posts), .osl i 0 r.Shocks.length 5, .int .i64 r.Next, .int .i64 r.Archived]
def aqf (B : List Int) (k : Int) (L : List aj) (r : V) (hout : Hp) : Prop := ∃ (s : cm) (c : Cur), s.ok ∧ c.le k ∧ r = s.v ∧ hout = [some (c.cs B), some (rows aj.cs L)]
theorem fx {B : List Int} {k : Int} {L : List aj} {h : Hp} {K N v : Int} {c : Cur} (h0 : h[0]? = some (some (c.cs B))) (h1 : h[1]? = some (some (rows aj.cs L))) (hK : bt K) (hN : bt N) (hv : bt v) (hc : c.le k) : x9 2 (.agg [.int .i64 K, .int .i64 N, .int .i64 v]) h (aqf B k L) := by
 refine ⟨_, _, ⟨⟨K, N, v⟩, c, ⟨hK, hN, hv⟩, hc, rfl, rfl⟩, ak.pick [0, 1] (by decide) (fun j hj => by rcases j with _ | _ | j <;> first | rfl | omega) (.inl rfl) ?_⟩
 simp only [az, List.map_cons, List.map_nil, bg, h0, h1, Cur.ren, ae]
theorem ae0 {B : List Int} (hB : CB B) {k : Int} (hk : k ≤ 1000000) {c : Cur} (hc : c.le k) (w : ab) (hw : w.ok) (hp : w.Posts.length ≤ 1000) (hs : w.Shocks.length ≤ 1000) : ml Tryz.prog 63 [.ptr 0 0, .agg (w.mc 1)] [some (c.cs B), some (rows aj.cs w.Shocks)] (aqf B (k + 20) w.Shocks) := by
 have hcb : ∀ {c' : Cur} {k' : Int}, c'.le k' → k' ≤ 4000000 → c'.le 4611686018427387903 := fun h h' => ⟨h.1, by have := h.2; omega⟩
 refine ml.intro Tryz.mixed Tryz.func63 rfl Tryz.avo ?_
 refine ev2 @Tryz.ntmps63 @Tryz.results63 ?_
 refine rn1 @ab.mc.eq_1 ?_
 refine an hB hc (by omega) [1, 1, 2, 3, 4, 4, 5, 6, 7, 8] (by simp) (by simp) rfl rfl rfl (fun vc1 c1 pvc1 hc1 => ?_)
 have hk1 : bt vc1 := bo pvc1 (by simp [bt])
 refine rn1 @Cur.ren ?_
 refine ax.split (fun h1 => ?_) (fun h1 => ?_)
 · have h1' := of_decide_eq_true h1
   obtain ⟨i, hi⟩ : ∃ i : Nat, iu B w.Posts.length c1 = i := ⟨(iu B w.Posts.length c1).toNat, by have := (e9 hB (n := w.Posts.length) hc1.1).1; omega⟩
   have hi' : i < w.Posts.length := by have := (e9 hB (n := w.Posts.length) hc1.1).2; omega
   have hr0 := xp (cs := bf.cs) bf.csl hi'
   refine rn1 @h1 ?_
   refine clT.tree (fun s2 => ∃ (st : Int) (c2 : Cur), bt st ∧ c2.le (k + 4) ∧ s2 = ⟨(.ptr 0 0 :: .undef :: .undef :: .ptr 2 0 :: .ptr 3 0 :: .int .i64 1 :: .int .i64 st :: .int .i64 vc1 :: (un 95 [])), [some (c2.cs B), some (rows aj.cs w.Shocks), some (w.mc 1), some [.int .i64 0, .int .i64 0, .int .i64 0]], 2⟩) (.take 0 (.take 2 (.take 3 (.alt 1 (.alt 4 (.alt 5 (.alt 6 (.take 7 (.take 8 (.alt 9 (.alt 10 .done .stop) .stop))) .stop) .stop) .stop) (.alt 4 (.alt 1 (.alt 5 (.alt 6 (.take 7 (.take 8 (.alt 9 (.alt 10 .done .stop) .stop))) .stop) .stop) (.alt 5 (.alt 1 (.alt 6 (.take 7 (.take 8 (.alt 9 (.alt 10 .done .stop) .stop))) .stop) (.alt 6 (.alt 1 (.take 7 (.take 8 (.alt 9 (.alt 10 .done .stop) .stop))) .stop) .stop)) .stop)) .stop))))) (by kernel_rfl) (fun s2 hs2 => ?_) ?_
   · obtain ⟨st, c2, hst, hc2, rfl⟩ := hs2
     have hst1 : st = st := rfl
     refine rn1 @ab.mc.eq_1 ?_
     refine ax.split (fun h2 => ?_) (fun h2 => ?_)
     · have h2' := of_decide_eq_true h2
       obtain ⟨j, hj⟩ : ∃ j : Nat, iu B w.Shocks.length c2 = j := ⟨(iu B w.Shocks.length c2).toNat, by have := (e9 hB (n := w.Shocks.length) hc2.1).1; omega⟩
       have hj' : j < w.Shocks.length := by have := (e9 hB (n := w.Shocks.length) hc2.1).2; omega
       have hr0 := bw aj.csl hj'
       have hlr := lk (w := 5) aj.csl w.Shocks
       refine rn1 @h2 ?_
       refine clT.tree (fun s2 => ∃ (c3 : Cur), c3.le (k + 6) ∧ s2 = ⟨(.ptr 0 0 :: .undef :: .undef :: .ptr 2 0 :: .ptr 3 0 :: .int .i64 1 :: .int .i64 st :: .int .i64 vc1 :: .ptr 4 0 :: (un 94 [])), [some (c3.cs B), some (rows aj.cs w.Shocks), some (w.mc 1), some [.int .i64 0, .int .i64 0, .int .i64 0], some w.Shocks[j].cs], 2⟩) (.take 0 (.take 2 (.take 3 (.alt 1 (.alt 4 (.alt 5 (.alt 6 (.take 7 (.alt 8 (.alt 9 (.alt 10 .done .stop) .stop) (.alt 9 (.alt 8 (.alt 10 .done .stop) .stop) .stop))) (.alt 9 (.alt 6 (.take 7 (.alt 8 (.alt 10 .done .stop) .stop)) .stop) .stop)) (.alt 9 (.alt 5 (.alt 6 (.take 7 (.alt 8 (.alt 10 .done .stop) .stop)) .stop) .stop) .stop)) (.alt 9 (.alt 4 (.alt 5 (.alt 6 (.take 7 (.alt 8 (.alt 10 .done .stop) .stop)) .stop) .stop) .stop) .stop)) (.alt 4 (.alt 1 (.alt 5 (.alt 6 (.take 7 (.alt 8 (.alt 9 (.alt 10 .done .stop) .stop) (.alt 9 (.alt 8 (.alt 10 .done .stop) .stop) .stop))) (.alt 9 (.alt 6 (.take 7 (.alt 8 (.alt 10 .done .stop) .stop)) .stop) .stop)) (.alt 9 (.alt 5 (.alt 6 (.take 7 (.alt 8 (.alt 10 .done .stop) .stop)) .stop) .stop) .stop)) (.alt 5 (.alt 1 (.alt 6 (.take 7 (.alt 8 (.alt 9 (.alt 10 .done .stop) .stop) (.alt 9 (.alt 8 (.alt 10 .done .stop) .stop) .stop))) (.alt 9 (.alt 6 (.take 7 (.alt 8 (.alt 10 .done .stop) .stop)) .stop) .stop)) (.alt 6 (.alt 1 (.take 7 (.alt 8 (.alt 9 (.alt 10 .done .stop) .stop) (.alt 9 (.alt 8 (.alt 10 .done .stop) .stop) .stop))) (.alt 9 (.alt 1 (.take 7 (.alt 8 (.alt 10 .done .stop) .stop)) .stop) .stop)) (.alt 9 (.alt 1 (.alt 6 (.take 7 (.alt 8 (.alt 10 .done .stop) .stop)) .stop) (.alt 6 (.alt 1 (.take 7 (.alt 8 (.alt 10 .done .stop) .stop)) .stop) .stop)) .stop))) (.alt 9 (.alt 1 (.alt 5 (.alt 6 (.take 7 (.alt 8 (.alt 10 .done .stop) .stop)) .stop) .stop) (.alt 5 (.alt 1 (.alt 6 (.take 7 (.alt 8 (.alt 10 .done .stop) .stop)) .stop) (.alt 6 (.alt 1 (.take 7 (.alt 8 (.alt 10 .done .stop) .stop)) .stop) .stop)) .stop)) .stop))) (.alt 9 (.alt 1 (.alt 4 (.alt 5 (.alt 6 (.take 7 (.alt 8 (.alt 10 .done .stop) .stop)) .stop) .stop) .stop) (.alt 4 (.alt 1 (.alt 5 (.alt 6 (.take 7 (.alt 8 (.alt 10 .done .stop) .stop)) .stop) .stop) (.alt 5 (.alt 1 (.alt 6 (.take 7 (.alt 8 (.alt 10 .done .stop) .stop)) .stop) (.alt 6 (.alt 1 (.take 7 (.alt 8 (.alt 10 .done .stop) .stop)) .stop) .stop)) .stop)) .stop)) .stop)))))) (by kernel_rfl) (fun s2 hs2 => ?_) ?_
       · obtain ⟨c8, hc8, rfl⟩ := hs2
         have hnm : bt w.Shocks[j].Number := (hw.2.2.1.2 _ (List.getElem_mem hj')).1
         refine rn1 @aj.cs.eq_1 ?_
         generalize w.Shocks[j].Number = nm at hnm ⊢
         generalize w.Shocks[j].State = sv
         refine dy hB hc8 (by omega) 2 (by omega) rfl (fun vc3 c3 hc3 => ?_)
         refine rn1 @Cur.ren ?_
         refine aw.split (fun h7 => ?_) (fun h7 => ?_) <;> refine rn2 @h7 @Cur.ren ?_
         · (first | refine al.at (dx _ _ _) ⟨leA, leA, leA, trivial⟩ ?_ | refine ai.at (dx _ _ _) ⟨leA, leA, leA, trivial⟩ ?_)
           refine rn0 ?_
           refine ax.split (fun h8 => ?_) (fun h8 => ?_)
           · have hsv : sv = 0 ∨ sv = 1 ∨ sv = 2 ∨ sv = 3 := by simp [fb] at h8; omega
             rcases hsv with rfl | rfl | rfl | rfl
             all_goals
              refine rn1 @h8 ?_
              refine dy hB hc3 (by omega) 40 (by omega) rfl (fun vc4 c4 hc4 => ?_)
              refine rn1 @Cur.ren ?_
              refine ax.split (fun h5 => ?_) (fun h5 => ?_)
              · refine rn1 @h5 ?_
                refine an hB hc4 (by omega) [0, 9, 6] (by simp) (by simp) rfl rfl rfl (fun vc5 c5 pvc5 hc5 => ?_)
                refine rn1 @Cur.ren ?_
                refine an hB hc5 (by omega) [0, nm, 999] (by simp) (by simp) rfl rfl rfl (fun vc6 c6 pvc6 hc6 => ?_)
                refine rn1 @Cur.ren ?_
                refine an hB hc6 (by omega) [0, 1, -1] (by simp) (by simp) rfl rfl rfl (fun vc7 c7 pvc7 hc7 => ?_)
                refine rn1 @Cur.ren ?_
                exact fx rfl rfl (bo pvc5 (by simp [bt])) (bo pvc6 (by intro x hx; simp at hx; rcases hx with rfl | rfl | rfl <;> first | assumption | simp [bt])) (bo pvc7 (by simp [bt])) (cf hc7 (by omega))
              · refine rn1 @h5 ?_
                repeat' (first | (refine ax.split (fun h6 => ?_) (fun h6 => ?_) <;> refine rn2 @h6 @Cur.ren ?_) | (exact fx rfl rfl (by first | assumption | (simp [bt]; done) | exact bo pvc5 (by simp [bt])) (by first | assumption | (simp [bt]; done) | exact bo pvc5 (by simp [bt])) (by first | assumption | (simp [bt]; done) | exact bo pvc5 (by simp [bt])) (by first | exact cf hc5 (by omega) | exact cf hc4 (by omega))) | (refine an hB hc4 (by omega) [1, 100, 6000, 6001, 1000001, 0] (by simp) (by simp) rfl rfl rfl (fun vc5 c5 pvc5 hc5 => ?_); refine rn1 @Cur.ren ?_) | (refine an hB hc4 (by omega) [-20, 12, 30, 49, 50, 95, 96] (by simp) (by simp) rfl rfl rfl (fun vc5 c5 pvc5 hc5 => ?_); refine rn1 @Cur.ren ?_) | (refine an hB hc4 (by omega) [0, 1, -3, 10, -10, 11] (by simp) (by simp) rfl rfl rfl (fun vc5 c5 pvc5 hc5 => ?_); refine rn1 @Cur.ren ?_))
           · refine rn1 @h8 ?_
             refine dy hB hc3 (by omega) 40 (by omega) rfl (fun vc4 c4 hc4 => ?_)
             refine rn1 @Cur.ren ?_
             refine ax.split (fun h5 => ?_) (fun h5 => ?_)
             · refine rn1 @h5 ?_
               refine an hB hc4 (by omega) [0, 9, 6] (by simp) (by simp) rfl rfl rfl (fun vc5 c5 pvc5 hc5 => ?_)
               refine rn1 @Cur.ren ?_
               refine an hB hc5 (by omega) [0, nm, 999] (by simp) (by simp) rfl rfl rfl (fun vc6 c6 pvc6 hc6 => ?_)
               refine rn1 @Cur.ren ?_
               refine an hB hc6 (by omega) [0, 1, -1] (by simp) (by simp) rfl rfl rfl (fun vc7 c7 pvc7 hc7 => ?_)
               refine rn1 @Cur.ren ?_
               exact fx rfl rfl (bo pvc5 (by simp [bt])) (bo pvc6 (by intro x hx; simp at hx; rcases hx with rfl | rfl | rfl <;> first | assumption | simp [bt])) (bo pvc7 (by simp [bt])) (cf hc7 (by omega))
             · refine rn1 @h5 ?_
               repeat' (first | (refine ax.split (fun h6 => ?_) (fun h6 => ?_) <;> refine rn2 @h6 @Cur.ren ?_) | (exact fx rfl rfl (by first | assumption | (simp [bt]; done) | exact bo pvc5 (by simp [bt])) (by first | assumption | (simp [bt]; done) | exact bo pvc5 (by simp [bt])) (by first | assumption | (simp [bt]; done) | exact bo pvc5 (by simp [bt])) (by first | exact cf hc5 (by omega) | exact cf hc4 (by omega))) | (refine an hB hc4 (by omega) [1, 100, 6000, 6001, 1000001, 0] (by simp) (by simp) rfl rfl rfl (fun vc5 c5 pvc5 hc5 => ?_); refine rn1 @Cur.ren ?_) | (refine an hB hc4 (by omega) [-20, 12, 30, 49, 50, 95, 96] (by simp) (by simp) rfl rfl rfl (fun vc5 c5 pvc5 hc5 => ?_); refine rn1 @Cur.ren ?_) | (refine an hB hc4 (by omega) [0, 1, -3, 10, -10, 11] (by simp) (by simp) rfl rfl rfl (fun vc5 c5 pvc5 hc5 => ?_); refine rn1 @Cur.ren ?_))
         · skip
           refine dy hB hc3 (by omega) 40 (by omega) rfl (fun vc4 c4 hc4 => ?_)
           refine rn1 @Cur.ren ?_
           refine ax.split (fun h5 => ?_) (fun h5 => ?_)
           · refine rn1 @h5 ?_
             refine an hB hc4 (by omega) [0, 9, 6] (by simp) (by simp) rfl rfl rfl (fun vc5 c5 pvc5 hc5 => ?_)
             refine rn1 @Cur.ren ?_
             refine an hB hc5 (by omega) [0, nm, 999] (by simp) (by simp) rfl rfl rfl (fun vc6 c6 pvc6 hc6 => ?_)
             refine rn1 @Cur.ren ?_
             refine an hB hc6 (by omega) [0, 1, -1] (by simp) (by simp) rfl rfl rfl (fun vc7 c7 pvc7 hc7 => ?_)
             refine rn1 @Cur.ren ?_
             exact fx rfl rfl (bo pvc5 (by simp [bt])) (bo pvc6 (by intro x hx; simp at hx; rcases hx with rfl | rfl | rfl <;> first | assumption | simp [bt])) (bo pvc7 (by simp [bt])) (cf hc7 (by omega))
           · refine rn1 @h5 ?_
             repeat' (first | (refine ax.split (fun h6 => ?_) (fun h6 => ?_) <;> refine rn2 @h6 @Cur.ren ?_) | (exact fx rfl rfl (by first | assumption | (simp [bt]; done) | exact bo pvc5 (by simp [bt])) (by first | assumption | (simp [bt]; done) | exact bo pvc5 (by simp [bt])) (by first | assumption | (simp [bt]; done) | exact bo pvc5 (by simp [bt])) (by first | exact cf hc5 (by omega) | exact cf hc4 (by omega))) | (refine an hB hc4 (by omega) [1, 100, 6000, 6001, 1000001, 0] (by simp) (by simp) rfl rfl rfl (fun vc5 c5 pvc5 hc5 => ?_); refine rn1 @Cur.ren ?_) | (refine an hB hc4 (by omega) [-20, 12, 30, 49, 50, 95, 96] (by simp) (by simp) rfl rfl rfl (fun vc5 c5 pvc5 hc5 => ?_); refine rn1 @Cur.ren ?_) | (refine an hB hc4 (by omega) [0, 1, -3, 10, -10, 11] (by simp) (by simp) rfl rfl rfl (fun vc5 c5 pvc5 hc5 => ?_); refine rn1 @Cur.ren ?_))
       · have pk := jz hB (hcb hc2 (by omega)) w.Shocks.length (by omega)
         have hq := dk (B := B) (n := w.Shocks.length) hc2
         rw [hj] at pk
         generalize ff B w.Shocks.length c2 = c3 at pk hq
         refine rn0 ?_
         repeat' (first | (refine ai.df [0] false pk (by decide) ⟨leO, leO, trivial⟩ (dp rfl) (ig B _ _) (.inl rfl) ?_; refine rn4 @hr0 @hlr @aj.cs.eq_1 @Cur.ren ?_) | (refine And.intro ?_ ?_) | exact trivial)
         all_goals
          refine ⟨_, ⟨c3, cf hq (by omega), rfl⟩, ?_⟩
          first
          | (refine aq.cut 5 (by simp) (by simp) ?_ ?_
             · (simp [LeC, LeV, ren, bj, hst1]; done)
             · (simp [bz, ck, bj, Cur.ren, ren, ab.mc, ae, aj.cs]; done))
          | (refine aq.pick [0, 1, 2, 3, 5] (by decide) (fun j hj => by rcases j with _ | _ | j <;> first | rfl | omega) ?_ ?_
             · (simp [LeG, LeC, LeV, ren, bc, posOf, hst1]; done)
             · (simp [az, bg, bc, posOf, Cur.ren, ren, ab.mc, ae, aj.cs]; done))
     · refine rn1 @h2 ?_
       obtain ⟨c3, ec3⟩ : ∃ x, x = c2 := ⟨_, rfl⟩
       have hc3 : c3.le (k + 6) := by rw [ec3]; exact cf hc2 (by omega)
       rw [← ec3]
       refine dy hB hc3 (by omega) 40 (by omega) rfl (fun vc4 c4 hc4 => ?_)
       refine rn1 @Cur.ren ?_
       refine ax.split (fun h5 => ?_) (fun h5 => ?_)
       · refine rn1 @h5 ?_
         refine an hB hc4 (by omega) [0, 9, 6] (by simp) (by simp) rfl rfl rfl (fun vc5 c5 pvc5 hc5 => ?_)
         refine rn1 @Cur.ren ?_
         refine an hB hc5 (by omega) [0, 1, 999] (by simp) (by simp) rfl rfl rfl (fun vc6 c6 pvc6 hc6 => ?_)
         refine rn1 @Cur.ren ?_
         refine an hB hc6 (by omega) [0, 1, -1] (by simp) (by simp) rfl rfl rfl (fun vc7 c7 pvc7 hc7 => ?_)
         refine rn1 @Cur.ren ?_
         exact fx rfl rfl (bo pvc5 (by simp [bt])) (bo pvc6 (by intro x hx; simp at hx; rcases hx with rfl | rfl | rfl <;> first | assumption | simp [bt])) (bo pvc7 (by simp [bt])) (cf hc7 (by omega))
       · refine rn1 @h5 ?_
         repeat' (first | (refine ax.split (fun h6 => ?_) (fun h6 => ?_) <;> refine rn2 @h6 @Cur.ren ?_) | (exact fx rfl rfl (by first | assumption | (simp [bt]; done) | exact bo pvc5 (by simp [bt])) (by first | assumption | (simp [bt]; done) | exact bo pvc5 (by simp [bt])) (by first | assumption | (simp [bt]; done) | exact bo pvc5 (by simp [bt])) (by first | exact cf hc5 (by omega) | exact cf hc4 (by omega))) | (refine an hB hc4 (by omega) [1, 100, 6000, 6001, 1000001, 0] (by simp) (by simp) rfl rfl rfl (fun vc5 c5 pvc5 hc5 => ?_); refine rn1 @Cur.ren ?_) | (refine an hB hc4 (by omega) [-20, 12, 30, 49, 50, 95, 96] (by simp) (by simp) rfl rfl rfl (fun vc5 c5 pvc5 hc5 => ?_); refine rn1 @Cur.ren ?_) | (refine an hB hc4 (by omega) [0, 1, -3, 10, -10, 11] (by simp) (by simp) rfl rfl rfl (fun vc5 c5 pvc5 hc5 => ?_); refine rn1 @Cur.ren ?_))
   · have pk := jz hB (hcb hc1 (by omega)) w.Posts.length (by omega)
     have hq := dk (B := B) (n := w.Posts.length) hc1
     rw [hi] at pk
     generalize ff B w.Posts.length c1 = c2 at pk hq
     have hok := hw.2.1.2 _ (List.getElem_mem hi')
     refine rn0 ?_
     repeat' (first | (refine ai.df [0] false pk (by decide) ⟨leO, leO, trivial⟩ (dp rfl) (ig B _ _) (.inl rfl) ?_; refine rn3 @hr0 @bf.cs.eq_1 @Cur.ren ?_) | (refine And.intro ?_ ?_) | exact trivial)
     all_goals
      refine ⟨_, ⟨w.Posts[i].Station, c2, hok.1, cf hq (by omega), rfl⟩, ?_⟩
      refine aq.cut (4) (by simp) (by simp) ?_ ?_
      · simp [LeC, LeV, ren, bj]
      · simp [bz, ck, bj, Cur.ren, ren, ab.mc, ae]
 · refine rn1 @h1 ?_
   obtain ⟨c2, ec2⟩ : ∃ x, x = c1 := ⟨_, rfl⟩
   rw [← ec2] at hc1 ⊢
   have hc2 : c2.le (k + 4) := cf hc1 (by omega)
   obtain ⟨st, hst1⟩ : ∃ x : Int, x = 1 := ⟨1, rfl⟩
   have hst : bt st := by rw [hst1]; simp [bt]
   refine ax.split (fun h2 => ?_) (fun h2 => ?_)
   · have h2' := of_decide_eq_true h2
     obtain ⟨j, hj⟩ : ∃ j : Nat, iu B w.Shocks.length c2 = j := ⟨(iu B w.Shocks.length c2).toNat, by have := (e9 hB (n := w.Shocks.length) hc2.1).1; omega⟩
     have hj' : j < w.Shocks.length := by have := (e9 hB (n := w.Shocks.length) hc2.1).2; omega
     have hr0 := bw aj.csl hj'
     have hlr := lk (w := 5) aj.csl w.Shocks
     refine rn1 @h2 ?_
     refine clT.tree (fun s2 => ∃ (c3 : Cur), c3.le (k + 6) ∧ s2 = ⟨(.ptr 0 0 :: .undef :: .undef :: .ptr 2 0 :: .ptr 3 0 :: .int .i64 1 :: .int .i64 st :: .int .i64 vc1 :: .ptr 4 0 :: (un 94 [])), [some (c3.cs B), some (rows aj.cs w.Shocks), some (w.mc 1), some [.int .i64 0, .int .i64 0, .int .i64 0], some w.Shocks[j].cs], 2⟩) (.take 0 (.take 2 (.take 3 (.alt 1 (.alt 4 (.alt 5 (.alt 6 (.take 7 (.alt 8 (.alt 9 (.alt 10 .done .stop) .stop) (.alt 9 (.alt 8 (.alt 10 .done .stop) .stop) .stop))) (.alt 9 (.alt 6 (.take 7 (.alt 8 (.alt 10 .done .stop) .stop)) .stop) .stop)) (.alt 9 (.alt 5 (.alt 6 (.take 7 (.alt 8 (.alt 10 .done .stop) .stop)) .stop) .stop) .stop)) (.alt 9 (.alt 4 (.alt 5 (.alt 6 (.take 7 (.alt 8 (.alt 10 .done .stop) .stop)) .stop) .stop) .stop) .stop)) (.alt 4 (.alt 1 (.alt 5 (.alt 6 (.take 7 (.alt 8 (.alt 9 (.alt 10 .done .stop) .stop) (.alt 9 (.alt 8 (.alt 10 .done .stop) .stop) .stop))) (.alt 9 (.alt 6 (.take 7 (.alt 8 (.alt 10 .done .stop) .stop)) .stop) .stop)) (.alt 9 (.alt 5 (.alt 6 (.take 7 (.alt 8 (.alt 10 .done .stop) .stop)) .stop) .stop) .stop)) (.alt 5 (.alt 1 (.alt 6 (.take 7 (.alt 8 (.alt 9 (.alt 10 .done .stop) .stop) (.alt 9 (.alt 8 (.alt 10 .done .stop) .stop) .stop))) (.alt 9 (.alt 6 (.take 7 (.alt 8 (.alt 10 .done .stop) .stop)) .stop) .stop)) (.alt 6 (.alt 1 (.take 7 (.alt 8 (.alt 9 (.alt 10 .done .stop) .stop) (.alt 9 (.alt 8 (.alt 10 .done .stop) .stop) .stop))) (.alt 9 (.alt 1 (.take 7 (.alt 8 (.alt 10 .done .stop) .stop)) .stop) .stop)) (.alt 9 (.alt 1 (.alt 6 (.take 7 (.alt 8 (.alt 10 .done .stop) .stop)) .stop) (.alt 6 (.alt 1 (.take 7 (.alt 8 (.alt 10 .done .stop) .stop)) .stop) .stop)) .stop))) (.alt 9 (.alt 1 (.alt 5 (.alt 6 (.take 7 (.alt 8 (.alt 10 .done .stop) .stop)) .stop) .stop) (.alt 5 (.alt 1 (.alt 6 (.take 7 (.alt 8 (.alt 10 .done .stop) .stop)) .stop) (.alt 6 (.alt 1 (.take 7 (.alt 8 (.alt 10 .done .stop) .stop)) .stop) .stop)) .stop)) .stop))) (.alt 9 (.alt 1 (.alt 4 (.alt 5 (.alt 6 (.take 7 (.alt 8 (.alt 10 .done .stop) .stop)) .stop) .stop) .stop) (.alt 4 (.alt 1 (.alt 5 (.alt 6 (.take 7 (.alt 8 (.alt 10 .done .stop) .stop)) .stop) .stop) (.alt 5 (.alt 1 (.alt 6 (.take 7 (.alt 8 (.alt 10 .done .stop) .stop)) .stop) (.alt 6 (.alt 1 (.take 7 (.alt 8 (.alt 10 .done .stop) .stop)) .stop) .stop)) .stop)) .stop)) .stop)))))) (by kernel_rfl) (fun s2 hs2 => ?_) ?_
     · obtain ⟨c8, hc8, rfl⟩ := hs2
       have hnm : bt w.Shocks[j].Number := (hw.2.2.1.2 _ (List.getElem_mem hj')).1
       refine rn1 @aj.cs.eq_1 ?_
       generalize w.Shocks[j].Number = nm at hnm ⊢
       generalize w.Shocks[j].State = sv
       refine dy hB hc8 (by omega) 2 (by omega) rfl (fun vc3 c3 hc3 => ?_)
       refine rn1 @Cur.ren ?_
       refine aw.split (fun h7 => ?_) (fun h7 => ?_) <;> refine rn2 @h7 @Cur.ren ?_
       · (first | refine al.at (dx _ _ _) ⟨leA, leA, leA, trivial⟩ ?_ | refine ai.at (dx _ _ _) ⟨leA, leA, leA, trivial⟩ ?_)
         refine rn0 ?_
         refine ax.split (fun h8 => ?_) (fun h8 => ?_)
         · have hsv : sv = 0 ∨ sv = 1 ∨ sv = 2 ∨ sv = 3 := by simp [fb] at h8; omega
           rcases hsv with rfl | rfl | rfl | rfl
           all_goals
            refine rn1 @h8 ?_
            refine dy hB hc3 (by omega) 40 (by omega) rfl (fun vc4 c4 hc4 => ?_)
            refine rn1 @Cur.ren ?_
            refine ax.split (fun h5 => ?_) (fun h5 => ?_)
            · refine rn1 @h5 ?_
              refine an hB hc4 (by omega) [0, 9, 6] (by simp) (by simp) rfl rfl rfl (fun vc5 c5 pvc5 hc5 => ?_)
              refine rn1 @Cur.ren ?_
              refine an hB hc5 (by omega) [0, nm, 999] (by simp) (by simp) rfl rfl rfl (fun vc6 c6 pvc6 hc6 => ?_)
              refine rn1 @Cur.ren ?_
              refine an hB hc6 (by omega) [0, 1, -1] (by simp) (by simp) rfl rfl rfl (fun vc7 c7 pvc7 hc7 => ?_)
              refine rn1 @Cur.ren ?_
              exact fx rfl rfl (bo pvc5 (by simp [bt])) (bo pvc6 (by intro x hx; simp at hx; rcases hx with rfl | rfl | rfl <;> first | assumption | simp [bt])) (bo pvc7 (by simp [bt])) (cf hc7 (by omega))
            · refine rn1 @h5 ?_
              repeat' (first | (refine ax.split (fun h6 => ?_) (fun h6 => ?_) <;> refine rn2 @h6 @Cur.ren ?_) | (exact fx rfl rfl (by first | assumption | (simp [bt]; done) | exact bo pvc5 (by simp [bt])) (by first | assumption | (simp [bt]; done) | exact bo pvc5 (by simp [bt])) (by first | assumption | (simp [bt]; done) | exact bo pvc5 (by simp [bt])) (by first | exact cf hc5 (by omega) | exact cf hc4 (by omega))) | (refine an hB hc4 (by omega) [1, 100, 6000, 6001, 1000001, 0] (by simp) (by simp) rfl rfl rfl (fun vc5 c5 pvc5 hc5 => ?_); refine rn1 @Cur.ren ?_) | (refine an hB hc4 (by omega) [-20, 12, 30, 49, 50, 95, 96] (by simp) (by simp) rfl rfl rfl (fun vc5 c5 pvc5 hc5 => ?_); refine rn1 @Cur.ren ?_) | (refine an hB hc4 (by omega) [0, 1, -3, 10, -10, 11] (by simp) (by simp) rfl rfl rfl (fun vc5 c5 pvc5 hc5 => ?_); refine rn1 @Cur.ren ?_))
         · refine rn1 @h8 ?_
           refine dy hB hc3 (by omega) 40 (by omega) rfl (fun vc4 c4 hc4 => ?_)
           refine rn1 @Cur.ren ?_
           refine ax.split (fun h5 => ?_) (fun h5 => ?_)
           · refine rn1 @h5 ?_
             refine an hB hc4 (by omega) [0, 9, 6] (by simp) (by simp) rfl rfl rfl (fun vc5 c5 pvc5 hc5 => ?_)
             refine rn1 @Cur.ren ?_
             refine an hB hc5 (by omega) [0, nm, 999] (by simp) (by simp) rfl rfl rfl (fun vc6 c6 pvc6 hc6 => ?_)
             refine rn1 @Cur.ren ?_
             refine an hB hc6 (by omega) [0, 1, -1] (by simp) (by simp) rfl rfl rfl (fun vc7 c7 pvc7 hc7 => ?_)
             refine rn1 @Cur.ren ?_
             exact fx rfl rfl (bo pvc5 (by simp [bt])) (bo pvc6 (by intro x hx; simp at hx; rcases hx with rfl | rfl | rfl <;> first | assumption | simp [bt])) (bo pvc7 (by simp [bt])) (cf hc7 (by omega))
           · refine rn1 @h5 ?_
             repeat' (first | (refine ax.split (fun h6 => ?_) (fun h6 => ?_) <;> refine rn2 @h6 @Cur.ren ?_) | (exact fx rfl rfl (by first | assumption | (simp [bt]; done) | exact bo pvc5 (by simp [bt])) (by first | assumption | (simp [bt]; done) | exact bo pvc5 (by simp [bt])) (by first | assumption | (simp [bt]; done) | exact bo pvc5 (by simp [bt])) (by first | exact cf hc5 (by omega) | exact cf hc4 (by omega))) | (refine an hB hc4 (by omega) [1, 100, 6000, 6001, 1000001, 0] (by simp) (by simp) rfl rfl rfl (fun vc5 c5 pvc5 hc5 => ?_); refine rn1 @Cur.ren ?_) | (refine an hB hc4 (by omega) [-20, 12, 30, 49, 50, 95, 96] (by simp) (by simp) rfl rfl rfl (fun vc5 c5 pvc5 hc5 => ?_); refine rn1 @Cur.ren ?_) | (refine an hB hc4 (by omega) [0, 1, -3, 10, -10, 11] (by simp) (by simp) rfl rfl rfl (fun vc5 c5 pvc5 hc5 => ?_); refine rn1 @Cur.ren ?_))
       · skip
         refine dy hB hc3 (by omega) 40 (by omega) rfl (fun vc4 c4 hc4 => ?_)
         refine rn1 @Cur.ren ?_
         refine ax.split (fun h5 => ?_) (fun h5 => ?_)
         · refine rn1 @h5 ?_
           refine an hB hc4 (by omega) [0, 9, 6] (by simp) (by simp) rfl rfl rfl (fun vc5 c5 pvc5 hc5 => ?_)
           refine rn1 @Cur.ren ?_
           refine an hB hc5 (by omega) [0, nm, 999] (by simp) (by simp) rfl rfl rfl (fun vc6 c6 pvc6 hc6 => ?_)
           refine rn1 @Cur.ren ?_
           refine an hB hc6 (by omega) [0, 1, -1] (by simp) (by simp) rfl rfl rfl (fun vc7 c7 pvc7 hc7 => ?_)
           refine rn1 @Cur.ren ?_
           exact fx rfl rfl (bo pvc5 (by simp [bt])) (bo pvc6 (by intro x hx; simp at hx; rcases hx with rfl | rfl | rfl <;> first | assumption | simp [bt])) (bo pvc7 (by simp [bt])) (cf hc7 (by omega))
         · refine rn1 @h5 ?_
           repeat' (first | (refine ax.split (fun h6 => ?_) (fun h6 => ?_) <;> refine rn2 @h6 @Cur.ren ?_) | (exact fx rfl rfl (by first | assumption | (simp [bt]; done) | exact bo pvc5 (by simp [bt])) (by first | assumption | (simp [bt]; done) | exact bo pvc5 (by simp [bt])) (by first | assumption | (simp [bt]; done) | exact bo pvc5 (by simp [bt])) (by first | exact cf hc5 (by omega) | exact cf hc4 (by omega))) | (refine an hB hc4 (by omega) [1, 100, 6000, 6001, 1000001, 0] (by simp) (by simp) rfl rfl rfl (fun vc5 c5 pvc5 hc5 => ?_); refine rn1 @Cur.ren ?_) | (refine an hB hc4 (by omega) [-20, 12, 30, 49, 50, 95, 96] (by simp) (by simp) rfl rfl rfl (fun vc5 c5 pvc5 hc5 => ?_); refine rn1 @Cur.ren ?_) | (refine an hB hc4 (by omega) [0, 1, -3, 10, -10, 11] (by simp) (by simp) rfl rfl rfl (fun vc5 c5 pvc5 hc5 => ?_); refine rn1 @Cur.ren ?_))
     · have pk := jz hB (hcb hc2 (by omega)) w.Shocks.length (by omega)
       have hq := dk (B := B) (n := w.Shocks.length) hc2
       rw [hj] at pk
       generalize ff B w.Shocks.length c2 = c3 at pk hq
       refine rn0 ?_
       repeat' (first | (refine ai.df [0] false pk (by decide) ⟨leO, leO, trivial⟩ (dp rfl) (ig B _ _) (.inl rfl) ?_; refine rn4 @hr0 @hlr @aj.cs.eq_1 @Cur.ren ?_) | (refine And.intro ?_ ?_) | exact trivial)
       all_goals
        refine ⟨_, ⟨c3, cf hq (by omega), rfl⟩, ?_⟩
        first
        | (refine aq.cut 5 (by simp) (by simp) ?_ ?_
           · (simp [LeC, LeV, ren, bj, hst1]; done)
           · (simp [bz, ck, bj, Cur.ren, ren, ab.mc, ae, aj.cs]; done))
        | (refine aq.pick [0, 1, 2, 3, 5] (by decide) (fun j hj => by rcases j with _ | _ | j <;> first | rfl | omega) ?_ ?_
           · (simp [LeG, LeC, LeV, ren, bc, posOf, hst1]; done)
           · (simp [az, bg, bc, posOf, Cur.ren, ren, ab.mc, ae, aj.cs]; done))
   · refine rn1 @h2 ?_
     obtain ⟨c3, ec3⟩ : ∃ x, x = c2 := ⟨_, rfl⟩
     have hc3 : c3.le (k + 6) := by rw [ec3]; exact cf hc2 (by omega)
     rw [← ec3]
     refine dy hB hc3 (by omega) 40 (by omega) rfl (fun vc4 c4 hc4 => ?_)
     refine rn1 @Cur.ren ?_
     refine ax.split (fun h5 => ?_) (fun h5 => ?_)
     · refine rn1 @h5 ?_
       refine an hB hc4 (by omega) [0, 9, 6] (by simp) (by simp) rfl rfl rfl (fun vc5 c5 pvc5 hc5 => ?_)
       refine rn1 @Cur.ren ?_
       refine an hB hc5 (by omega) [0, 1, 999] (by simp) (by simp) rfl rfl rfl (fun vc6 c6 pvc6 hc6 => ?_)
       refine rn1 @Cur.ren ?_
       refine an hB hc6 (by omega) [0, 1, -1] (by simp) (by simp) rfl rfl rfl (fun vc7 c7 pvc7 hc7 => ?_)
       refine rn1 @Cur.ren ?_
       exact fx rfl rfl (bo pvc5 (by simp [bt])) (bo pvc6 (by intro x hx; simp at hx; rcases hx with rfl | rfl | rfl <;> first | assumption | simp [bt])) (bo pvc7 (by simp [bt])) (cf hc7 (by omega))
     · refine rn1 @h5 ?_
       repeat' (first | (refine ax.split (fun h6 => ?_) (fun h6 => ?_) <;> refine rn2 @h6 @Cur.ren ?_) | (exact fx rfl rfl (by first | assumption | (simp [bt]; done) | exact bo pvc5 (by simp [bt])) (by first | assumption | (simp [bt]; done) | exact bo pvc5 (by simp [bt])) (by first | assumption | (simp [bt]; done) | exact bo pvc5 (by simp [bt])) (by first | exact cf hc5 (by omega) | exact cf hc4 (by omega))) | (refine an hB hc4 (by omega) [1, 100, 6000, 6001, 1000001, 0] (by simp) (by simp) rfl rfl rfl (fun vc5 c5 pvc5 hc5 => ?_); refine rn1 @Cur.ren ?_) | (refine an hB hc4 (by omega) [-20, 12, 30, 49, 50, 95, 96] (by simp) (by simp) rfl rfl rfl (fun vc5 c5 pvc5 hc5 => ?_); refine rn1 @Cur.ren ?_) | (refine an hB hc4 (by omega) [0, 1, -3, 10, -10, 11] (by simp) (by simp) rfl rfl rfl (fun vc5 c5 pvc5 hc5 => ?_); refine rn1 @Cur.ren ?_))
end Go.Proofs
end
section
set_option maxRecDepth 100000
set_option maxHeartbeats 2000000
namespace Go.Proofs
open Go.Lv
theorem lv {x y : V} (h : LeV x y := by first | exact leA | exact ab.leM (r := w) (i := 3) rfl) : LeV x y := h
def aqt (B : List Int) (k : Int) (r : V) (hout : Hp) : Prop := ∃ (w : ab) (c : Cur), (w.ok ∧ w.sm) ∧ w.Posts.length ≤ 100 ∧ w.Shocks.length ≤ 100 ∧ c.le k ∧ r = w.v ∧ hout = [some (c.cs B)]
theorem ab.leM {h : Hp} {r : ab} {i : Nat} (h1 : h[i]? = some (some (rows aj.cs r.Shocks))) : LeV (ren (fg h 3) 3 (.agg (r.mc i))) r.v := by
 refine .inl ?_
 simp only [ab.mc, ab.v, ren, List.map_cons, List.map_nil, fg, h1, ae, List.drop_zero, cr]
theorem amw {w w' : ab} {k n v : Int} (h : fi w k n v = some w') : wB w' = true := by
 unfold fi e7 at h
 split at h
 · rename_i hb
   simp only [Option.some.injEq] at h
   subst h
   simp only [Bool.and_eq_true] at hb
   exact hb.2.2
 · cases h
theorem akx {w : ab} (h : wB w = true) : w.ok ∧ w.Posts.length ≤ 8 ∧ w.Shocks.length ≤ 6 := by
 have W := eh h
 have hn := W.now
 have hx := W.next
 have ha := W.arch
 refine ⟨⟨⟨by omega, by omega⟩, ⟨by have := W.plen; omega, fun p hp => ?_⟩, ⟨by have := W.slen; omega, fun x hxm => ?_⟩, ⟨by omega, by omega⟩, ⟨by omega, by omega⟩⟩, W.plen, W.slen⟩
 · have := mh.1 (W.posts p hp)
   exact ⟨⟨by omega, by omega⟩, ⟨by omega, by omega⟩⟩
 · have := er.1 (W.shocks x hxm)
   exact ⟨⟨by omega, by omega⟩, ⟨by omega, by omega⟩, ⟨by omega, by omega⟩, ⟨by omega, by omega⟩, ⟨by omega, by omega⟩⟩
theorem avp {w : ab} (h : wB w = true) : w.sm := by
 have W := eh h
 refine ⟨fun p hp => ?_, fun x hx => ?_⟩
 · have := mh.1 (W.posts p hp)
   exact ⟨by omega, by omega⟩
 · have := er.1 (W.shocks x hx)
   have := W.next
   exact ⟨by omega, by omega⟩
theorem ab.atv {w : ab} {x : aj} {a b c : Int} (h : w.sm) (hx : sR x.Number) : ab.sm ⟨a, w.Posts, w.Shocks ++ [x], b, c⟩ := by
 refine ⟨h.1, fun y hy => ?_⟩
 rcases List.mem_append.1 hy with g | g
 · exact h.2 y g
 · rw [List.mem_singleton.1 g]; exact hx
def getT : List (Nat × St) → Nat → Option St
 | [], _ => none
 | p :: l, m => if Nat.beq p.1 m = true then some p.2 else getT l m
def gA (s0 : St) (l : List (Nat × St)) (m : Nat) (s : St) : Prop := cond (Nat.beq m 0) (some s0 = some s) (getT l m = some s)
def tabZ (B : List Int) (c5 c6 c7 c8 c9 : Cur) (v6 v7 v8 v9 : Int) : List (Nat × St) :=
 [(0, ⟨(.ptr 0 0 :: .undef :: .ptr 1 0 :: .ptr 2 0 :: (un 60 [])), [some (c5.cs B), some [.int .i64 0, .nilsl, .nilsl, .int .i64 0, .int .i64 0], some [.int .i64 0, .nilsl, .nilsl, .int .i64 0, .int .i64 0]], 1⟩),
  (1, ⟨(.ptr 0 0 :: .undef :: .ptr 1 0 :: .ptr 2 0 :: (un 42 (.ptr 2 2 :: (un 17 [])))), [some (c5.cs B), some [.int .i64 0, .nilsl, .nilsl, .int .i64 0, .int .i64 0], some [.int .i64 0, .nilsl, .nilsl, .int .i64 0, .int .i64 0]], 1⟩),
  (5, ⟨(.ptr 0 0 :: .undef :: .ptr 1 0 :: .ptr 2 0 :: (un 42 (.ptr 2 2 :: .undef :: .ptr 0 0 :: (un 15 [])))), [some (c5.cs B), some [.int .i64 0, .nilsl, .nilsl, .int .i64 0, .int .i64 0], some [.int .i64 0, .nilsl, .nilsl, .int .i64 0, .int .i64 0]], 1⟩),
  (37, ⟨(.ptr 0 0 :: .undef :: .ptr 1 0 :: .ptr 2 0 :: (un 42 (.ptr 2 2 :: .undef :: .ptr 0 0 :: .undef :: .undef :: .ptr 0 0 :: (un 12 [])))), [some (c5.cs B), some [.int .i64 0, .nilsl, .nilsl, .int .i64 0, .int .i64 0], some [.int .i64 0, .nilsl, .nilsl, .int .i64 0, .int .i64 0]], 1⟩),
  (165, ⟨(.ptr 0 0 :: .undef :: .ptr 1 0 :: .ptr 2 0 :: (un 42 (.ptr 2 2 :: .undef :: .ptr 0 0 :: .undef :: .undef :: .ptr 0 0 :: .undef :: .ptr 0 0 :: (un 10 [])))), [some (c5.cs B), some [.int .i64 0, .nilsl, .nilsl, .int .i64 0, .int .i64 0], some [.int .i64 0, .nilsl, .nilsl, .int .i64 0, .int .i64 0]], 1⟩),
  (1189, ⟨(.ptr 0 0 :: .undef :: .ptr 1 0 :: .ptr 2 0 :: (un 42 (.ptr 2 2 :: .undef :: .ptr 0 0 :: .undef :: .undef :: .ptr 0 0 :: .undef :: .ptr 0 0 :: .undef :: .undef :: .ptr 0 0 :: (un 7 [])))), [some (c5.cs B), some [.int .i64 0, .nilsl, .nilsl, .int .i64 0, .int .i64 0], some [.int .i64 0, .nilsl, .nilsl, .int .i64 0, .int .i64 0]], 1⟩),
  (1191, ⟨(.ptr 0 0 :: .undef :: .ptr 1 0 :: .ptr 2 0 :: (un 43 (.nilsl :: .ptr 0 0 :: .undef :: .undef :: .ptr 0 0 :: .undef :: .ptr 0 0 :: .undef :: .undef :: .ptr 0 0 :: (un 7 [])))), [some (c5.cs B), some [.int .i64 0, .nilsl, .nilsl, .int .i64 0, .int .i64 0], some [.int .i64 0, .nilsl, .nilsl, .int .i64 0, .int .i64 0]], 1⟩),
  (1197, ⟨(.ptr 0 0 :: .undef :: .ptr 1 0 :: .ptr 2 0 :: (un 42 (.ptr 2 2 :: .undef :: .ptr 0 0 :: .osl 3 0 2 1 :: .undef :: .ptr 0 0 :: .undef :: .ptr 0 0 :: .undef :: .undef :: .ptr 0 0 :: (un 7 [])))), [some (c5.cs B), some [.int .i64 0, .nilsl, .nilsl, .int .i64 0, .int .i64 0], some [.int .i64 0, .nilsl, .nilsl, .int .i64 0, .int .i64 0], some (rows IntS.cs [0, 1])], 1⟩),
  (1199, ⟨(.ptr 0 0 :: .undef :: .ptr 1 0 :: .ptr 2 0 :: (un 43 (.nilsl :: .ptr 0 0 :: .osl 3 0 2 1 :: .undef :: .ptr 0 0 :: .undef :: .ptr 0 0 :: .undef :: .undef :: .ptr 0 0 :: (un 7 [])))), [some (c5.cs B), some [.int .i64 0, .nilsl, .nilsl, .int .i64 0, .int .i64 0], some [.int .i64 0, .nilsl, .nilsl, .int .i64 0, .int .i64 0], some (rows IntS.cs [0, 1])], 1⟩),
  (1213, ⟨(.ptr 0 0 :: .undef :: .ptr 1 0 :: .ptr 2 0 :: (un 42 (.ptr 2 2 :: (un 3 (.int .i64 v6 :: .ptr 0 0 :: .undef :: .ptr 0 0 :: .undef :: .undef :: .ptr 0 0 :: (un 7 [])))))), [some (c6.cs B), some [.int .i64 0, .nilsl, .nilsl, .int .i64 0, .int .i64 0], some [.int .i64 0, .nilsl, .nilsl, .int .i64 0, .int .i64 0]], 1⟩),
  (1215, ⟨(.ptr 0 0 :: .undef :: .ptr 1 0 :: .ptr 2 0 :: (un 43 (.nilsl :: .undef :: .undef :: .int .i64 v6 :: .ptr 0 0 :: .undef :: .ptr 0 0 :: .undef :: .undef :: .ptr 0 0 :: (un 7 [])))), [some (c6.cs B), some [.int .i64 0, .nilsl, .nilsl, .int .i64 0, .int .i64 0], some [.int .i64 0, .nilsl, .nilsl, .int .i64 0, .int .i64 0]], 1⟩),
  (1277, ⟨(.ptr 0 0 :: .undef :: .ptr 1 0 :: .ptr 2 0 :: (un 42 (.ptr 2 2 :: (un 3 (.int .i64 v6 :: .undef :: .int .i64 v7 :: .ptr 0 0 :: .undef :: .undef :: .ptr 0 0 :: (un 7 [])))))), [some (c7.cs B), some [.int .i64 0, .nilsl, .nilsl, .int .i64 0, .int .i64 0], some [.int .i64 0, .nilsl, .nilsl, .int .i64 0, .int .i64 0]], 1⟩),
  (1279, ⟨(.ptr 0 0 :: .undef :: .ptr 1 0 :: .ptr 2 0 :: (un 43 (.nilsl :: .undef :: .undef :: .int .i64 v6 :: .undef :: .int .i64 v7 :: .ptr 0 0 :: .undef :: .undef :: .ptr 0 0 :: (un 7 [])))), [some (c7.cs B), some [.int .i64 0, .nilsl, .nilsl, .int .i64 0, .int .i64 0], some [.int .i64 0, .nilsl, .nilsl, .int .i64 0, .int .i64 0]], 1⟩),
  (1445, ⟨(.ptr 0 0 :: .undef :: .ptr 1 0 :: .ptr 2 0 :: (un 42 (.ptr 2 2 :: .undef :: .ptr 0 0 :: .undef :: .undef :: .ptr 0 0 :: .undef :: .ptr 0 0 :: .osl 3 0 2 1 :: .undef :: .ptr 0 0 :: (un 7 [])))), [some (c5.cs B), some [.int .i64 0, .nilsl, .nilsl, .int .i64 0, .int .i64 0], some [.int .i64 0, .nilsl, .nilsl, .int .i64 0, .int .i64 0], some (rows IntS.cs [0, 9])], 1⟩),
  (1447, ⟨(.ptr 0 0 :: .undef :: .ptr 1 0 :: .ptr 2 0 :: (un 43 (.nilsl :: .ptr 0 0 :: .undef :: .undef :: .ptr 0 0 :: .undef :: .ptr 0 0 :: .osl 3 0 2 1 :: .undef :: .ptr 0 0 :: (un 7 [])))), [some (c5.cs B), some [.int .i64 0, .nilsl, .nilsl, .int .i64 0, .int .i64 0], some [.int .i64 0, .nilsl, .nilsl, .int .i64 0, .int .i64 0], some (rows IntS.cs [0, 9])], 1⟩),
  (1453, ⟨(.ptr 0 0 :: .undef :: .ptr 1 0 :: .ptr 2 0 :: (un 42 (.ptr 2 2 :: .undef :: .ptr 0 0 :: .osl 3 0 2 1 :: .undef :: .ptr 0 0 :: .undef :: .ptr 0 0 :: .osl 4 0 2 1 :: .undef :: .ptr 0 0 :: (un 7 [])))), [some (c5.cs B), some [.int .i64 0, .nilsl, .nilsl, .int .i64 0, .int .i64 0], some [.int .i64 0, .nilsl, .nilsl, .int .i64 0, .int .i64 0], some (rows IntS.cs [0, 1]), some (rows IntS.cs [0, 9])], 1⟩),
  (1455, ⟨(.ptr 0 0 :: .undef :: .ptr 1 0 :: .ptr 2 0 :: (un 43 (.nilsl :: .ptr 0 0 :: .osl 3 0 2 1 :: .undef :: .ptr 0 0 :: .undef :: .ptr 0 0 :: .osl 4 0 2 1 :: .undef :: .ptr 0 0 :: (un 7 [])))), [some (c5.cs B), some [.int .i64 0, .nilsl, .nilsl, .int .i64 0, .int .i64 0], some [.int .i64 0, .nilsl, .nilsl, .int .i64 0, .int .i64 0], some (rows IntS.cs [0, 1]), some (rows IntS.cs [0, 9])], 1⟩),
  (1469, ⟨(.ptr 0 0 :: .undef :: .ptr 1 0 :: .ptr 2 0 :: (un 42 (.ptr 2 2 :: (un 3 (.int .i64 v6 :: .ptr 0 0 :: .undef :: .ptr 0 0 :: .osl 3 0 2 1 :: .undef :: .ptr 0 0 :: (un 7 [])))))), [some (c6.cs B), some [.int .i64 0, .nilsl, .nilsl, .int .i64 0, .int .i64 0], some [.int .i64 0, .nilsl, .nilsl, .int .i64 0, .int .i64 0], some (rows IntS.cs [0, 9])], 1⟩),
  (1471, ⟨(.ptr 0 0 :: .undef :: .ptr 1 0 :: .ptr 2 0 :: (un 43 (.nilsl :: .undef :: .undef :: .int .i64 v6 :: .ptr 0 0 :: .undef :: .ptr 0 0 :: .osl 3 0 2 1 :: .undef :: .ptr 0 0 :: (un 7 [])))), [some (c6.cs B), some [.int .i64 0, .nilsl, .nilsl, .int .i64 0, .int .i64 0], some [.int .i64 0, .nilsl, .nilsl, .int .i64 0, .int .i64 0], some (rows IntS.cs [0, 9])], 1⟩),
  (1533, ⟨(.ptr 0 0 :: .undef :: .ptr 1 0 :: .ptr 2 0 :: (un 42 (.ptr 2 2 :: (un 3 (.int .i64 v6 :: .undef :: .int .i64 v7 :: .ptr 0 0 :: .osl 3 0 2 1 :: .undef :: .ptr 0 0 :: (un 7 [])))))), [some (c7.cs B), some [.int .i64 0, .nilsl, .nilsl, .int .i64 0, .int .i64 0], some [.int .i64 0, .nilsl, .nilsl, .int .i64 0, .int .i64 0], some (rows IntS.cs [0, 9])], 1⟩),
  (1535, ⟨(.ptr 0 0 :: .undef :: .ptr 1 0 :: .ptr 2 0 :: (un 43 (.nilsl :: .undef :: .undef :: .int .i64 v6 :: .undef :: .int .i64 v7 :: .ptr 0 0 :: .osl 3 0 2 1 :: .undef :: .ptr 0 0 :: (un 7 [])))), [some (c7.cs B), some [.int .i64 0, .nilsl, .nilsl, .int .i64 0, .int .i64 0], some [.int .i64 0, .nilsl, .nilsl, .int .i64 0, .int .i64 0], some (rows IntS.cs [0, 9])], 1⟩),
  (2045, ⟨(.ptr 0 0 :: .undef :: .ptr 1 0 :: .ptr 2 0 :: (un 42 (.ptr 2 2 :: (un 3 (.int .i64 v6 :: .undef :: .int .i64 v7 :: .undef :: .undef :: .int .i64 v8 :: .ptr 0 0 :: (un 7 [])))))), [some (c8.cs B), some [.int .i64 0, .nilsl, .nilsl, .int .i64 0, .int .i64 0], some [.int .i64 0, .nilsl, .nilsl, .int .i64 0, .int .i64 0]], 1⟩),
  (2047, ⟨(.ptr 0 0 :: .undef :: .ptr 1 0 :: .ptr 2 0 :: (un 43 (.nilsl :: .undef :: .undef :: .int .i64 v6 :: .undef :: .int .i64 v7 :: .undef :: .undef :: .int .i64 v8 :: .ptr 0 0 :: (un 7 [])))), [some (c8.cs B), some [.int .i64 0, .nilsl, .nilsl, .int .i64 0, .int .i64 0], some [.int .i64 0, .nilsl, .nilsl, .int .i64 0, .int .i64 0]], 1⟩),
  (3237, ⟨(.ptr 0 0 :: .undef :: .ptr 1 0 :: .ptr 2 0 :: (un 42 (.ptr 2 2 :: .undef :: .ptr 0 0 :: .undef :: .undef :: .ptr 0 0 :: .undef :: .ptr 0 0 :: .undef :: .undef :: .ptr 0 0 :: .osl 3 0 2 1 :: (un 6 [])))), [some (c5.cs B), some [.int .i64 0, .nilsl, .nilsl, .int .i64 0, .int .i64 0], some [.int .i64 0, .nilsl, .nilsl, .int .i64 0, .int .i64 0], some (rows IntS.cs [0, 96])], 1⟩),
  (3239, ⟨(.ptr 0 0 :: .undef :: .ptr 1 0 :: .ptr 2 0 :: (un 43 (.nilsl :: .ptr 0 0 :: .undef :: .undef :: .ptr 0 0 :: .undef :: .ptr 0 0 :: .undef :: .undef :: .ptr 0 0 :: .osl 3 0 2 1 :: (un 6 [])))), [some (c5.cs B), some [.int .i64 0, .nilsl, .nilsl, .int .i64 0, .int .i64 0], some [.int .i64 0, .nilsl, .nilsl, .int .i64 0, .int .i64 0], some (rows IntS.cs [0, 96])], 1⟩),
  (3245, ⟨(.ptr 0 0 :: .undef :: .ptr 1 0 :: .ptr 2 0 :: (un 42 (.ptr 2 2 :: .undef :: .ptr 0 0 :: .osl 3 0 2 1 :: .undef :: .ptr 0 0 :: .undef :: .ptr 0 0 :: .undef :: .undef :: .ptr 0 0 :: .osl 4 0 2 1 :: (un 6 [])))), [some (c5.cs B), some [.int .i64 0, .nilsl, .nilsl, .int .i64 0, .int .i64 0], some [.int .i64 0, .nilsl, .nilsl, .int .i64 0, .int .i64 0], some (rows IntS.cs [0, 1]), some (rows IntS.cs [0, 96])], 1⟩),
  (3247, ⟨(.ptr 0 0 :: .undef :: .ptr 1 0 :: .ptr 2 0 :: (un 43 (.nilsl :: .ptr 0 0 :: .osl 3 0 2 1 :: .undef :: .ptr 0 0 :: .undef :: .ptr 0 0 :: .undef :: .undef :: .ptr 0 0 :: .osl 4 0 2 1 :: (un 6 [])))), [some (c5.cs B), some [.int .i64 0, .nilsl, .nilsl, .int .i64 0, .int .i64 0], some [.int .i64 0, .nilsl, .nilsl, .int .i64 0, .int .i64 0], some (rows IntS.cs [0, 1]), some (rows IntS.cs [0, 96])], 1⟩),
  (3261, ⟨(.ptr 0 0 :: .undef :: .ptr 1 0 :: .ptr 2 0 :: (un 42 (.ptr 2 2 :: (un 3 (.int .i64 v6 :: .ptr 0 0 :: .undef :: .ptr 0 0 :: .undef :: .undef :: .ptr 0 0 :: .osl 3 0 2 1 :: (un 6 [])))))), [some (c6.cs B), some [.int .i64 0, .nilsl, .nilsl, .int .i64 0, .int .i64 0], some [.int .i64 0, .nilsl, .nilsl, .int .i64 0, .int .i64 0], some (rows IntS.cs [0, 96])], 1⟩),
  (3263, ⟨(.ptr 0 0 :: .undef :: .ptr 1 0 :: .ptr 2 0 :: (un 43 (.nilsl :: .undef :: .undef :: .int .i64 v6 :: .ptr 0 0 :: .undef :: .ptr 0 0 :: .undef :: .undef :: .ptr 0 0 :: .osl 3 0 2 1 :: (un 6 [])))), [some (c6.cs B), some [.int .i64 0, .nilsl, .nilsl, .int .i64 0, .int .i64 0], some [.int .i64 0, .nilsl, .nilsl, .int .i64 0, .int .i64 0], some (rows IntS.cs [0, 96])], 1⟩),
  (3325, ⟨(.ptr 0 0 :: .undef :: .ptr 1 0 :: .ptr 2 0 :: (un 42 (.ptr 2 2 :: (un 3 (.int .i64 v6 :: .undef :: .int .i64 v7 :: .ptr 0 0 :: .undef :: .undef :: .ptr 0 0 :: .osl 3 0 2 1 :: (un 6 [])))))), [some (c7.cs B), some [.int .i64 0, .nilsl, .nilsl, .int .i64 0, .int .i64 0], some [.int .i64 0, .nilsl, .nilsl, .int .i64 0, .int .i64 0], some (rows IntS.cs [0, 96])], 1⟩),
  (3327, ⟨(.ptr 0 0 :: .undef :: .ptr 1 0 :: .ptr 2 0 :: (un 43 (.nilsl :: .undef :: .undef :: .int .i64 v6 :: .undef :: .int .i64 v7 :: .ptr 0 0 :: .undef :: .undef :: .ptr 0 0 :: .osl 3 0 2 1 :: (un 6 [])))), [some (c7.cs B), some [.int .i64 0, .nilsl, .nilsl, .int .i64 0, .int .i64 0], some [.int .i64 0, .nilsl, .nilsl, .int .i64 0, .int .i64 0], some (rows IntS.cs [0, 96])], 1⟩),
  (3493, ⟨(.ptr 0 0 :: .undef :: .ptr 1 0 :: .ptr 2 0 :: (un 42 (.ptr 2 2 :: .undef :: .ptr 0 0 :: .undef :: .undef :: .ptr 0 0 :: .undef :: .ptr 0 0 :: .osl 3 0 2 1 :: .undef :: .ptr 0 0 :: .osl 4 0 2 1 :: (un 6 [])))), [some (c5.cs B), some [.int .i64 0, .nilsl, .nilsl, .int .i64 0, .int .i64 0], some [.int .i64 0, .nilsl, .nilsl, .int .i64 0, .int .i64 0], some (rows IntS.cs [0, 9]), some (rows IntS.cs [0, 96])], 1⟩),
  (3495, ⟨(.ptr 0 0 :: .undef :: .ptr 1 0 :: .ptr 2 0 :: (un 43 (.nilsl :: .ptr 0 0 :: .undef :: .undef :: .ptr 0 0 :: .undef :: .ptr 0 0 :: .osl 3 0 2 1 :: .undef :: .ptr 0 0 :: .osl 4 0 2 1 :: (un 6 [])))), [some (c5.cs B), some [.int .i64 0, .nilsl, .nilsl, .int .i64 0, .int .i64 0], some [.int .i64 0, .nilsl, .nilsl, .int .i64 0, .int .i64 0], some (rows IntS.cs [0, 9]), some (rows IntS.cs [0, 96])], 1⟩),
  (3501, ⟨(.ptr 0 0 :: .undef :: .ptr 1 0 :: .ptr 2 0 :: (un 42 (.ptr 2 2 :: .undef :: .ptr 0 0 :: .osl 3 0 2 1 :: .undef :: .ptr 0 0 :: .undef :: .ptr 0 0 :: .osl 4 0 2 1 :: .undef :: .ptr 0 0 :: .osl 5 0 2 1 :: (un 6 [])))), [some (c5.cs B), some [.int .i64 0, .nilsl, .nilsl, .int .i64 0, .int .i64 0], some [.int .i64 0, .nilsl, .nilsl, .int .i64 0, .int .i64 0], some (rows IntS.cs [0, 1]), some (rows IntS.cs [0, 9]), some (rows IntS.cs [0, 96])], 1⟩),
  (3503, ⟨(.ptr 0 0 :: .undef :: .ptr 1 0 :: .ptr 2 0 :: (un 43 (.nilsl :: .ptr 0 0 :: .osl 3 0 2 1 :: .undef :: .ptr 0 0 :: .undef :: .ptr 0 0 :: .osl 4 0 2 1 :: .undef :: .ptr 0 0 :: .osl 5 0 2 1 :: (un 6 [])))), [some (c5.cs B), some [.int .i64 0, .nilsl, .nilsl, .int .i64 0, .int .i64 0], some [.int .i64 0, .nilsl, .nilsl, .int .i64 0, .int .i64 0], some (rows IntS.cs [0, 1]), some (rows IntS.cs [0, 9]), some (rows IntS.cs [0, 96])], 1⟩),
  (3517, ⟨(.ptr 0 0 :: .undef :: .ptr 1 0 :: .ptr 2 0 :: (un 42 (.ptr 2 2 :: (un 3 (.int .i64 v6 :: .ptr 0 0 :: .undef :: .ptr 0 0 :: .osl 3 0 2 1 :: .undef :: .ptr 0 0 :: .osl 4 0 2 1 :: (un 6 [])))))), [some (c6.cs B), some [.int .i64 0, .nilsl, .nilsl, .int .i64 0, .int .i64 0], some [.int .i64 0, .nilsl, .nilsl, .int .i64 0, .int .i64 0], some (rows IntS.cs [0, 9]), some (rows IntS.cs [0, 96])], 1⟩),
  (3519, ⟨(.ptr 0 0 :: .undef :: .ptr 1 0 :: .ptr 2 0 :: (un 43 (.nilsl :: .undef :: .undef :: .int .i64 v6 :: .ptr 0 0 :: .undef :: .ptr 0 0 :: .osl 3 0 2 1 :: .undef :: .ptr 0 0 :: .osl 4 0 2 1 :: (un 6 [])))), [some (c6.cs B), some [.int .i64 0, .nilsl, .nilsl, .int .i64 0, .int .i64 0], some [.int .i64 0, .nilsl, .nilsl, .int .i64 0, .int .i64 0], some (rows IntS.cs [0, 9]), some (rows IntS.cs [0, 96])], 1⟩),
  (3581, ⟨(.ptr 0 0 :: .undef :: .ptr 1 0 :: .ptr 2 0 :: (un 42 (.ptr 2 2 :: (un 3 (.int .i64 v6 :: .undef :: .int .i64 v7 :: .ptr 0 0 :: .osl 3 0 2 1 :: .undef :: .ptr 0 0 :: .osl 4 0 2 1 :: (un 6 [])))))), [some (c7.cs B), some [.int .i64 0, .nilsl, .nilsl, .int .i64 0, .int .i64 0], some [.int .i64 0, .nilsl, .nilsl, .int .i64 0, .int .i64 0], some (rows IntS.cs [0, 9]), some (rows IntS.cs [0, 96])], 1⟩),
  (3583, ⟨(.ptr 0 0 :: .undef :: .ptr 1 0 :: .ptr 2 0 :: (un 43 (.nilsl :: .undef :: .undef :: .int .i64 v6 :: .undef :: .int .i64 v7 :: .ptr 0 0 :: .osl 3 0 2 1 :: .undef :: .ptr 0 0 :: .osl 4 0 2 1 :: (un 6 [])))), [some (c7.cs B), some [.int .i64 0, .nilsl, .nilsl, .int .i64 0, .int .i64 0], some [.int .i64 0, .nilsl, .nilsl, .int .i64 0, .int .i64 0], some (rows IntS.cs [0, 9]), some (rows IntS.cs [0, 96])], 1⟩),
  (4093, ⟨(.ptr 0 0 :: .undef :: .ptr 1 0 :: .ptr 2 0 :: (un 42 (.ptr 2 2 :: (un 3 (.int .i64 v6 :: .undef :: .int .i64 v7 :: .undef :: .undef :: .int .i64 v8 :: .ptr 0 0 :: .osl 3 0 2 1 :: (un 6 [])))))), [some (c8.cs B), some [.int .i64 0, .nilsl, .nilsl, .int .i64 0, .int .i64 0], some [.int .i64 0, .nilsl, .nilsl, .int .i64 0, .int .i64 0], some (rows IntS.cs [0, 96])], 1⟩),
  (4095, ⟨(.ptr 0 0 :: .undef :: .ptr 1 0 :: .ptr 2 0 :: (un 43 (.nilsl :: .undef :: .undef :: .int .i64 v6 :: .undef :: .int .i64 v7 :: .undef :: .undef :: .int .i64 v8 :: .ptr 0 0 :: .osl 3 0 2 1 :: (un 6 [])))), [some (c8.cs B), some [.int .i64 0, .nilsl, .nilsl, .int .i64 0, .int .i64 0], some [.int .i64 0, .nilsl, .nilsl, .int .i64 0, .int .i64 0], some (rows IntS.cs [0, 96])], 1⟩),
  (8189, ⟨(.ptr 0 0 :: .undef :: .ptr 1 0 :: .ptr 2 0 :: (un 42 (.ptr 2 2 :: (un 3 (.int .i64 v6 :: .undef :: .int .i64 v7 :: .undef :: .undef :: .int .i64 v8 :: .undef :: .undef :: .int .i64 v9 :: (un 5 [])))))), [some (c9.cs B), some [.int .i64 0, .nilsl, .nilsl, .int .i64 0, .int .i64 0], some [.int .i64 0, .nilsl, .nilsl, .int .i64 0, .int .i64 0]], 1⟩),
  (8191, ⟨(.ptr 0 0 :: .undef :: .ptr 1 0 :: .ptr 2 0 :: (un 43 (.nilsl :: .undef :: .undef :: .int .i64 v6 :: .undef :: .int .i64 v7 :: .undef :: .undef :: .int .i64 v8 :: .undef :: .undef :: .int .i64 v9 :: (un 5 [])))), [some (c9.cs B), some [.int .i64 0, .nilsl, .nilsl, .int .i64 0, .int .i64 0], some [.int .i64 0, .nilsl, .nilsl, .int .i64 0, .int .i64 0]], 1⟩),
  (16381, ⟨(.ptr 0 0 :: .undef :: .ptr 1 0 :: .ptr 2 0 :: (un 42 (.ptr 2 2 :: (un 12 (.agg [.int .i64 v6, .int .i64 v7, .int .i64 v8, .int .i64 v9, .int .i64 0] :: (un 4 [])))))), [some (c9.cs B), some [.int .i64 0, .nilsl, .nilsl, .int .i64 0, .int .i64 0], some [.int .i64 0, .nilsl, .nilsl, .int .i64 0, .int .i64 0]], 1⟩),
  (16383, ⟨(.ptr 0 0 :: .undef :: .ptr 1 0 :: .ptr 2 0 :: (un 43 (.nilsl :: (un 11 (.agg [.int .i64 v6, .int .i64 v7, .int .i64 v8, .int .i64 v9, .int .i64 0] :: (un 4 [])))))), [some (c9.cs B), some [.int .i64 0, .nilsl, .nilsl, .int .i64 0, .int .i64 0], some [.int .i64 0, .nilsl, .nilsl, .int .i64 0, .int .i64 0]], 1⟩),
  (32765, ⟨(.ptr 0 0 :: .undef :: .ptr 1 0 :: .ptr 2 0 :: (un 42 (.ptr 2 2 :: (un 13 (.osl 3 0 1 5 :: (un 3 [])))))), [some (c9.cs B), some [.int .i64 0, .nilsl, .nilsl, .int .i64 0, .int .i64 0], some [.int .i64 0, .nilsl, .nilsl, .int .i64 0, .int .i64 0], some [.int .i64 v6, .int .i64 v7, .int .i64 v8, .int .i64 v9, .int .i64 0]], 1⟩),
  (32767, ⟨(.ptr 0 0 :: .undef :: .ptr 1 0 :: .ptr 2 0 :: (un 43 (.nilsl :: (un 12 (.osl 3 0 1 5 :: (un 3 [])))))), [some (c9.cs B), some [.int .i64 0, .nilsl, .nilsl, .int .i64 0, .int .i64 0], some [.int .i64 0, .nilsl, .nilsl, .int .i64 0, .int .i64 0], some [.int .i64 v6, .int .i64 v7, .int .i64 v8, .int .i64 v9, .int .i64 0]], 1⟩),
  (65535, ⟨(.ptr 0 0 :: .undef :: .ptr 1 0 :: .ptr 2 0 :: (un 57 (.osl 3 0 1 5 :: .undef :: .undef :: []))), [some (c9.cs B), some [.int .i64 0, .nilsl, .nilsl, .int .i64 0, .int .i64 0], some [.int .i64 0, .nilsl, .nilsl, .int .i64 0, .int .i64 0], some [.int .i64 v6, .int .i64 v7, .int .i64 v8, .int .i64 v9, .int .i64 0]], 1⟩),
  (131071, ⟨(.ptr 0 0 :: .undef :: .ptr 1 0 :: .ptr 2 0 :: (un 57 (.osl 3 0 1 5 :: .ptr 2 2 :: .undef :: []))), [some (c9.cs B), some [.int .i64 0, .nilsl, .nilsl, .int .i64 0, .int .i64 0], some [.int .i64 0, .nilsl, .nilsl, .int .i64 0, .int .i64 0], some [.int .i64 v6, .int .i64 v7, .int .i64 v8, .int .i64 v9, .int .i64 0]], 1⟩),
  (262143, ⟨(.ptr 0 0 :: .undef :: .ptr 1 0 :: .ptr 2 0 :: (un 60 [])), [some (c9.cs B), some [.int .i64 0, .nilsl, .nilsl, .int .i64 0, .int .i64 0], some [.int .i64 0, .nilsl, .osl 3 0 1 5, .int .i64 0, .int .i64 0], some [.int .i64 v6, .int .i64 v7, .int .i64 v8, .int .i64 v9, .int .i64 0]], 1⟩)]
def tabM (B : List Int) (w : ab) (c5 c6 c7 c8 c9 : Cur) (v6 v7 v8 v9 : Int) : List (Nat × St) :=
 [(0, ⟨(.ptr 0 0 :: .undef :: .ptr 1 0 :: .ptr 2 0 :: (un 60 [])), [some (c5.cs B), some [.int .i64 0, .nilsl, .nilsl, .int .i64 0, .int .i64 0], some (w.mc 3), some (rows aj.cs w.Shocks)], 1⟩),
  (1, ⟨(.ptr 0 0 :: .undef :: .ptr 1 0 :: .ptr 2 0 :: (un 42 (.ptr 2 2 :: (un 17 [])))), [some (c5.cs B), some [.int .i64 0, .nilsl, .nilsl, .int .i64 0, .int .i64 0], some (w.mc 3), some (rows aj.cs w.Shocks)], 1⟩),
  (5, ⟨(.ptr 0 0 :: .undef :: .ptr 1 0 :: .ptr 2 0 :: (un 42 (.ptr 2 2 :: .undef :: .ptr 0 0 :: (un 15 [])))), [some (c5.cs B), some [.int .i64 0, .nilsl, .nilsl, .int .i64 0, .int .i64 0], some (w.mc 3), some (rows aj.cs w.Shocks)], 1⟩),
  (37, ⟨(.ptr 0 0 :: .undef :: .ptr 1 0 :: .ptr 2 0 :: (un 42 (.ptr 2 2 :: .undef :: .ptr 0 0 :: .undef :: .undef :: .ptr 0 0 :: (un 12 [])))), [some (c5.cs B), some [.int .i64 0, .nilsl, .nilsl, .int .i64 0, .int .i64 0], some (w.mc 3), some (rows aj.cs w.Shocks)], 1⟩),
  (165, ⟨(.ptr 0 0 :: .undef :: .ptr 1 0 :: .ptr 2 0 :: (un 42 (.ptr 2 2 :: .undef :: .ptr 0 0 :: .undef :: .undef :: .ptr 0 0 :: .undef :: .ptr 0 0 :: (un 10 [])))), [some (c5.cs B), some [.int .i64 0, .nilsl, .nilsl, .int .i64 0, .int .i64 0], some (w.mc 3), some (rows aj.cs w.Shocks)], 1⟩),
  (1189, ⟨(.ptr 0 0 :: .undef :: .ptr 1 0 :: .ptr 2 0 :: (un 42 (.ptr 2 2 :: .undef :: .ptr 0 0 :: .undef :: .undef :: .ptr 0 0 :: .undef :: .ptr 0 0 :: .undef :: .undef :: .ptr 0 0 :: (un 7 [])))), [some (c5.cs B), some [.int .i64 0, .nilsl, .nilsl, .int .i64 0, .int .i64 0], some (w.mc 3), some (rows aj.cs w.Shocks)], 1⟩),
  (1191, ⟨(.ptr 0 0 :: .undef :: .ptr 1 0 :: .ptr 2 0 :: (un 43 (.osl 3 0 w.Shocks.length 5 :: .ptr 0 0 :: .undef :: .undef :: .ptr 0 0 :: .undef :: .ptr 0 0 :: .undef :: .undef :: .ptr 0 0 :: (un 7 [])))), [some (c5.cs B), some [.int .i64 0, .nilsl, .nilsl, .int .i64 0, .int .i64 0], some (w.mc 3), some (rows aj.cs w.Shocks)], 1⟩),
  (1197, ⟨(.ptr 0 0 :: .undef :: .ptr 1 0 :: .ptr 2 0 :: (un 42 (.ptr 2 2 :: .undef :: .ptr 0 0 :: .osl 4 0 2 1 :: .undef :: .ptr 0 0 :: .undef :: .ptr 0 0 :: .undef :: .undef :: .ptr 0 0 :: (un 7 [])))), [some (c5.cs B), some [.int .i64 0, .nilsl, .nilsl, .int .i64 0, .int .i64 0], some (w.mc 3), some (rows aj.cs w.Shocks), some (rows IntS.cs [0, 1])], 1⟩),
  (1199, ⟨(.ptr 0 0 :: .undef :: .ptr 1 0 :: .ptr 2 0 :: (un 43 (.osl 3 0 w.Shocks.length 5 :: .ptr 0 0 :: .osl 4 0 2 1 :: .undef :: .ptr 0 0 :: .undef :: .ptr 0 0 :: .undef :: .undef :: .ptr 0 0 :: (un 7 [])))), [some (c5.cs B), some [.int .i64 0, .nilsl, .nilsl, .int .i64 0, .int .i64 0], some (w.mc 3), some (rows aj.cs w.Shocks), some (rows IntS.cs [0, 1])], 1⟩),
  (1213, ⟨(.ptr 0 0 :: .undef :: .ptr 1 0 :: .ptr 2 0 :: (un 42 (.ptr 2 2 :: (un 3 (.int .i64 v6 :: .ptr 0 0 :: .undef :: .ptr 0 0 :: .undef :: .undef :: .ptr 0 0 :: (un 7 [])))))), [some (c6.cs B), some [.int .i64 0, .nilsl, .nilsl, .int .i64 0, .int .i64 0], some (w.mc 3), some (rows aj.cs w.Shocks)], 1⟩),
  (1215, ⟨(.ptr 0 0 :: .undef :: .ptr 1 0 :: .ptr 2 0 :: (un 43 (.osl 3 0 w.Shocks.length 5 :: .undef :: .undef :: .int .i64 v6 :: .ptr 0 0 :: .undef :: .ptr 0 0 :: .undef :: .undef :: .ptr 0 0 :: (un 7 [])))), [some (c6.cs B), some [.int .i64 0, .nilsl, .nilsl, .int .i64 0, .int .i64 0], some (w.mc 3), some (rows aj.cs w.Shocks)], 1⟩),
  (1277, ⟨(.ptr 0 0 :: .undef :: .ptr 1 0 :: .ptr 2 0 :: (un 42 (.ptr 2 2 :: (un 3 (.int .i64 v6 :: .undef :: .int .i64 v7 :: .ptr 0 0 :: .undef :: .undef :: .ptr 0 0 :: (un 7 [])))))), [some (c7.cs B), some [.int .i64 0, .nilsl, .nilsl, .int .i64 0, .int .i64 0], some (w.mc 3), some (rows aj.cs w.Shocks)], 1⟩),
  (1279, ⟨(.ptr 0 0 :: .undef :: .ptr 1 0 :: .ptr 2 0 :: (un 43 (.osl 3 0 w.Shocks.length 5 :: .undef :: .undef :: .int .i64 v6 :: .undef :: .int .i64 v7 :: .ptr 0 0 :: .undef :: .undef :: .ptr 0 0 :: (un 7 [])))), [some (c7.cs B), some [.int .i64 0, .nilsl, .nilsl, .int .i64 0, .int .i64 0], some (w.mc 3), some (rows aj.cs w.Shocks)], 1⟩),
  (1445, ⟨(.ptr 0 0 :: .undef :: .ptr 1 0 :: .ptr 2 0 :: (un 42 (.ptr 2 2 :: .undef :: .ptr 0 0 :: .undef :: .undef :: .ptr 0 0 :: .undef :: .ptr 0 0 :: .osl 4 0 2 1 :: .undef :: .ptr 0 0 :: (un 7 [])))), [some (c5.cs B), some [.int .i64 0, .nilsl, .nilsl, .int .i64 0, .int .i64 0], some (w.mc 3), some (rows aj.cs w.Shocks), some (rows IntS.cs [0, 9])], 1⟩),
  (1447, ⟨(.ptr 0 0 :: .undef :: .ptr 1 0 :: .ptr 2 0 :: (un 43 (.osl 3 0 w.Shocks.length 5 :: .ptr 0 0 :: .undef :: .undef :: .ptr 0 0 :: .undef :: .ptr 0 0 :: .osl 4 0 2 1 :: .undef :: .ptr 0 0 :: (un 7 [])))), [some (c5.cs B), some [.int .i64 0, .nilsl, .nilsl, .int .i64 0, .int .i64 0], some (w.mc 3), some (rows aj.cs w.Shocks), some (rows IntS.cs [0, 9])], 1⟩),
  (1453, ⟨(.ptr 0 0 :: .undef :: .ptr 1 0 :: .ptr 2 0 :: (un 42 (.ptr 2 2 :: .undef :: .ptr 0 0 :: .osl 4 0 2 1 :: .undef :: .ptr 0 0 :: .undef :: .ptr 0 0 :: .osl 5 0 2 1 :: .undef :: .ptr 0 0 :: (un 7 [])))), [some (c5.cs B), some [.int .i64 0, .nilsl, .nilsl, .int .i64 0, .int .i64 0], some (w.mc 3), some (rows aj.cs w.Shocks), some (rows IntS.cs [0, 1]), some (rows IntS.cs [0, 9])], 1⟩),
  (1455, ⟨(.ptr 0 0 :: .undef :: .ptr 1 0 :: .ptr 2 0 :: (un 43 (.osl 3 0 w.Shocks.length 5 :: .ptr 0 0 :: .osl 4 0 2 1 :: .undef :: .ptr 0 0 :: .undef :: .ptr 0 0 :: .osl 5 0 2 1 :: .undef :: .ptr 0 0 :: (un 7 [])))), [some (c5.cs B), some [.int .i64 0, .nilsl, .nilsl, .int .i64 0, .int .i64 0], some (w.mc 3), some (rows aj.cs w.Shocks), some (rows IntS.cs [0, 1]), some (rows IntS.cs [0, 9])], 1⟩),
  (1469, ⟨(.ptr 0 0 :: .undef :: .ptr 1 0 :: .ptr 2 0 :: (un 42 (.ptr 2 2 :: (un 3 (.int .i64 v6 :: .ptr 0 0 :: .undef :: .ptr 0 0 :: .osl 4 0 2 1 :: .undef :: .ptr 0 0 :: (un 7 [])))))), [some (c6.cs B), some [.int .i64 0, .nilsl, .nilsl, .int .i64 0, .int .i64 0], some (w.mc 3), some (rows aj.cs w.Shocks), some (rows IntS.cs [0, 9])], 1⟩),
  (1471, ⟨(.ptr 0 0 :: .undef :: .ptr 1 0 :: .ptr 2 0 :: (un 43 (.osl 3 0 w.Shocks.length 5 :: .undef :: .undef :: .int .i64 v6 :: .ptr 0 0 :: .undef :: .ptr 0 0 :: .osl 4 0 2 1 :: .undef :: .ptr 0 0 :: (un 7 [])))), [some (c6.cs B), some [.int .i64 0, .nilsl, .nilsl, .int .i64 0, .int .i64 0], some (w.mc 3), some (rows aj.cs w.Shocks), some (rows IntS.cs [0, 9])], 1⟩),
  (1533, ⟨(.ptr 0 0 :: .undef :: .ptr 1 0 :: .ptr 2 0 :: (un 42 (.ptr 2 2 :: (un 3 (.int .i64 v6 :: .undef :: .int .i64 v7 :: .ptr 0 0 :: .osl 4 0 2 1 :: .undef :: .ptr 0 0 :: (un 7 [])))))), [some (c7.cs B), some [.int .i64 0, .nilsl, .nilsl, .int .i64 0, .int .i64 0], some (w.mc 3), some (rows aj.cs w.Shocks), some (rows IntS.cs [0, 9])], 1⟩),
  (1535, ⟨(.ptr 0 0 :: .undef :: .ptr 1 0 :: .ptr 2 0 :: (un 43 (.osl 3 0 w.Shocks.length 5 :: .undef :: .undef :: .int .i64 v6 :: .undef :: .int .i64 v7 :: .ptr 0 0 :: .osl 4 0 2 1 :: .undef :: .ptr 0 0 :: (un 7 [])))), [some (c7.cs B), some [.int .i64 0, .nilsl, .nilsl, .int .i64 0, .int .i64 0], some (w.mc 3), some (rows aj.cs w.Shocks), some (rows IntS.cs [0, 9])], 1⟩),
  (2045, ⟨(.ptr 0 0 :: .undef :: .ptr 1 0 :: .ptr 2 0 :: (un 42 (.ptr 2 2 :: (un 3 (.int .i64 v6 :: .undef :: .int .i64 v7 :: .undef :: .undef :: .int .i64 v8 :: .ptr 0 0 :: (un 7 [])))))), [some (c8.cs B), some [.int .i64 0, .nilsl, .nilsl, .int .i64 0, .int .i64 0], some (w.mc 3), some (rows aj.cs w.Shocks)], 1⟩),
  (2047, ⟨(.ptr 0 0 :: .undef :: .ptr 1 0 :: .ptr 2 0 :: (un 43 (.osl 3 0 w.Shocks.length 5 :: .undef :: .undef :: .int .i64 v6 :: .undef :: .int .i64 v7 :: .undef :: .undef :: .int .i64 v8 :: .ptr 0 0 :: (un 7 [])))), [some (c8.cs B), some [.int .i64 0, .nilsl, .nilsl, .int .i64 0, .int .i64 0], some (w.mc 3), some (rows aj.cs w.Shocks)], 1⟩),
  (3237, ⟨(.ptr 0 0 :: .undef :: .ptr 1 0 :: .ptr 2 0 :: (un 42 (.ptr 2 2 :: .undef :: .ptr 0 0 :: .undef :: .undef :: .ptr 0 0 :: .undef :: .ptr 0 0 :: .undef :: .undef :: .ptr 0 0 :: .osl 4 0 2 1 :: (un 6 [])))), [some (c5.cs B), some [.int .i64 0, .nilsl, .nilsl, .int .i64 0, .int .i64 0], some (w.mc 3), some (rows aj.cs w.Shocks), some (rows IntS.cs [0, 96])], 1⟩),
  (3239, ⟨(.ptr 0 0 :: .undef :: .ptr 1 0 :: .ptr 2 0 :: (un 43 (.osl 3 0 w.Shocks.length 5 :: .ptr 0 0 :: .undef :: .undef :: .ptr 0 0 :: .undef :: .ptr 0 0 :: .undef :: .undef :: .ptr 0 0 :: .osl 4 0 2 1 :: (un 6 [])))), [some (c5.cs B), some [.int .i64 0, .nilsl, .nilsl, .int .i64 0, .int .i64 0], some (w.mc 3), some (rows aj.cs w.Shocks), some (rows IntS.cs [0, 96])], 1⟩),
  (3245, ⟨(.ptr 0 0 :: .undef :: .ptr 1 0 :: .ptr 2 0 :: (un 42 (.ptr 2 2 :: .undef :: .ptr 0 0 :: .osl 4 0 2 1 :: .undef :: .ptr 0 0 :: .undef :: .ptr 0 0 :: .undef :: .undef :: .ptr 0 0 :: .osl 5 0 2 1 :: (un 6 [])))), [some (c5.cs B), some [.int .i64 0, .nilsl, .nilsl, .int .i64 0, .int .i64 0], some (w.mc 3), some (rows aj.cs w.Shocks), some (rows IntS.cs [0, 1]), some (rows IntS.cs [0, 96])], 1⟩),
  (3247, ⟨(.ptr 0 0 :: .undef :: .ptr 1 0 :: .ptr 2 0 :: (un 43 (.osl 3 0 w.Shocks.length 5 :: .ptr 0 0 :: .osl 4 0 2 1 :: .undef :: .ptr 0 0 :: .undef :: .ptr 0 0 :: .undef :: .undef :: .ptr 0 0 :: .osl 5 0 2 1 :: (un 6 [])))), [some (c5.cs B), some [.int .i64 0, .nilsl, .nilsl, .int .i64 0, .int .i64 0], some (w.mc 3), some (rows aj.cs w.Shocks), some (rows IntS.cs [0, 1]), some (rows IntS.cs [0, 96])], 1⟩),
  (3261, ⟨(.ptr 0 0 :: .undef :: .ptr 1 0 :: .ptr 2 0 :: (un 42 (.ptr 2 2 :: (un 3 (.int .i64 v6 :: .ptr 0 0 :: .undef :: .ptr 0 0 :: .undef :: .undef :: .ptr 0 0 :: .osl 4 0 2 1 :: (un 6 [])))))), [some (c6.cs B), some [.int .i64 0, .nilsl, .nilsl, .int .i64 0, .int .i64 0], some (w.mc 3), some (rows aj.cs w.Shocks), some (rows IntS.cs [0, 96])], 1⟩),
  (3263, ⟨(.ptr 0 0 :: .undef :: .ptr 1 0 :: .ptr 2 0 :: (un 43 (.osl 3 0 w.Shocks.length 5 :: .undef :: .undef :: .int .i64 v6 :: .ptr 0 0 :: .undef :: .ptr 0 0 :: .undef :: .undef :: .ptr 0 0 :: .osl 4 0 2 1 :: (un 6 [])))), [some (c6.cs B), some [.int .i64 0, .nilsl, .nilsl, .int .i64 0, .int .i64 0], some (w.mc 3), some (rows aj.cs w.Shocks), some (rows IntS.cs [0, 96])], 1⟩),
  (3325, ⟨(.ptr 0 0 :: .undef :: .ptr 1 0 :: .ptr 2 0 :: (un 42 (.ptr 2 2 :: (un 3 (.int .i64 v6 :: .undef :: .int .i64 v7 :: .ptr 0 0 :: .undef :: .undef :: .ptr 0 0 :: .osl 4 0 2 1 :: (un 6 [])))))), [some (c7.cs B), some [.int .i64 0, .nilsl, .nilsl, .int .i64 0, .int .i64 0], some (w.mc 3), some (rows aj.cs w.Shocks), some (rows IntS.cs [0, 96])], 1⟩),
  (3327, ⟨(.ptr 0 0 :: .undef :: .ptr 1 0 :: .ptr 2 0 :: (un 43 (.osl 3 0 w.Shocks.length 5 :: .undef :: .undef :: .int .i64 v6 :: .undef :: .int .i64 v7 :: .ptr 0 0 :: .undef :: .undef :: .ptr 0 0 :: .osl 4 0 2 1 :: (un 6 [])))), [some (c7.cs B), some [.int .i64 0, .nilsl, .nilsl, .int .i64 0, .int .i64 0], some (w.mc 3), some (rows aj.cs w.Shocks), some (rows IntS.cs [0, 96])], 1⟩),
  (3493, ⟨(.ptr 0 0 :: .undef :: .ptr 1 0 :: .ptr 2 0 :: (un 42 (.ptr 2 2 :: .undef :: .ptr 0 0 :: .undef :: .undef :: .ptr 0 0 :: .undef :: .ptr 0 0 :: .osl 4 0 2 1 :: .undef :: .ptr 0 0 :: .osl 5 0 2 1 :: (un 6 [])))), [some (c5.cs B), some [.int .i64 0, .nilsl, .nilsl, .int .i64 0, .int .i64 0], some (w.mc 3), some (rows aj.cs w.Shocks), some (rows IntS.cs [0, 9]), some (rows IntS.cs [0, 96])], 1⟩),
  (3495, ⟨(.ptr 0 0 :: .undef :: .ptr 1 0 :: .ptr 2 0 :: (un 43 (.osl 3 0 w.Shocks.length 5 :: .ptr 0 0 :: .undef :: .undef :: .ptr 0 0 :: .undef :: .ptr 0 0 :: .osl 4 0 2 1 :: .undef :: .ptr 0 0 :: .osl 5 0 2 1 :: (un 6 [])))), [some (c5.cs B), some [.int .i64 0, .nilsl, .nilsl, .int .i64 0, .int .i64 0], some (w.mc 3), some (rows aj.cs w.Shocks), some (rows IntS.cs [0, 9]), some (rows IntS.cs [0, 96])], 1⟩),
  (3501, ⟨(.ptr 0 0 :: .undef :: .ptr 1 0 :: .ptr 2 0 :: (un 42 (.ptr 2 2 :: .undef :: .ptr 0 0 :: .osl 4 0 2 1 :: .undef :: .ptr 0 0 :: .undef :: .ptr 0 0 :: .osl 5 0 2 1 :: .undef :: .ptr 0 0 :: .osl 6 0 2 1 :: (un 6 [])))), [some (c5.cs B), some [.int .i64 0, .nilsl, .nilsl, .int .i64 0, .int .i64 0], some (w.mc 3), some (rows aj.cs w.Shocks), some (rows IntS.cs [0, 1]), some (rows IntS.cs [0, 9]), some (rows IntS.cs [0, 96])], 1⟩),
  (3503, ⟨(.ptr 0 0 :: .undef :: .ptr 1 0 :: .ptr 2 0 :: (un 43 (.osl 3 0 w.Shocks.length 5 :: .ptr 0 0 :: .osl 4 0 2 1 :: .undef :: .ptr 0 0 :: .undef :: .ptr 0 0 :: .osl 5 0 2 1 :: .undef :: .ptr 0 0 :: .osl 6 0 2 1 :: (un 6 [])))), [some (c5.cs B), some [.int .i64 0, .nilsl, .nilsl, .int .i64 0, .int .i64 0], some (w.mc 3), some (rows aj.cs w.Shocks), some (rows IntS.cs [0, 1]), some (rows IntS.cs [0, 9]), some (rows IntS.cs [0, 96])], 1⟩),
  (3517, ⟨(.ptr 0 0 :: .undef :: .ptr 1 0 :: .ptr 2 0 :: (un 42 (.ptr 2 2 :: (un 3 (.int .i64 v6 :: .ptr 0 0 :: .undef :: .ptr 0 0 :: .osl 4 0 2 1 :: .undef :: .ptr 0 0 :: .osl 5 0 2 1 :: (un 6 [])))))), [some (c6.cs B), some [.int .i64 0, .nilsl, .nilsl, .int .i64 0, .int .i64 0], some (w.mc 3), some (rows aj.cs w.Shocks), some (rows IntS.cs [0, 9]), some (rows IntS.cs [0, 96])], 1⟩),
  (3519, ⟨(.ptr 0 0 :: .undef :: .ptr 1 0 :: .ptr 2 0 :: (un 43 (.osl 3 0 w.Shocks.length 5 :: .undef :: .undef :: .int .i64 v6 :: .ptr 0 0 :: .undef :: .ptr 0 0 :: .osl 4 0 2 1 :: .undef :: .ptr 0 0 :: .osl 5 0 2 1 :: (un 6 [])))), [some (c6.cs B), some [.int .i64 0, .nilsl, .nilsl, .int .i64 0, .int .i64 0], some (w.mc 3), some (rows aj.cs w.Shocks), some (rows IntS.cs [0, 9]), some (rows IntS.cs [0, 96])], 1⟩),
  (3581, ⟨(.ptr 0 0 :: .undef :: .ptr 1 0 :: .ptr 2 0 :: (un 42 (.ptr 2 2 :: (un 3 (.int .i64 v6 :: .undef :: .int .i64 v7 :: .ptr 0 0 :: .osl 4 0 2 1 :: .undef :: .ptr 0 0 :: .osl 5 0 2 1 :: (un 6 [])))))), [some (c7.cs B), some [.int .i64 0, .nilsl, .nilsl, .int .i64 0, .int .i64 0], some (w.mc 3), some (rows aj.cs w.Shocks), some (rows IntS.cs [0, 9]), some (rows IntS.cs [0, 96])], 1⟩),
  (3583, ⟨(.ptr 0 0 :: .undef :: .ptr 1 0 :: .ptr 2 0 :: (un 43 (.osl 3 0 w.Shocks.length 5 :: .undef :: .undef :: .int .i64 v6 :: .undef :: .int .i64 v7 :: .ptr 0 0 :: .osl 4 0 2 1 :: .undef :: .ptr 0 0 :: .osl 5 0 2 1 :: (un 6 [])))), [some (c7.cs B), some [.int .i64 0, .nilsl, .nilsl, .int .i64 0, .int .i64 0], some (w.mc 3), some (rows aj.cs w.Shocks), some (rows IntS.cs [0, 9]), some (rows IntS.cs [0, 96])], 1⟩),
  (4093, ⟨(.ptr 0 0 :: .undef :: .ptr 1 0 :: .ptr 2 0 :: (un 42 (.ptr 2 2 :: (un 3 (.int .i64 v6 :: .undef :: .int .i64 v7 :: .undef :: .undef :: .int .i64 v8 :: .ptr 0 0 :: .osl 4 0 2 1 :: (un 6 [])))))), [some (c8.cs B), some [.int .i64 0, .nilsl, .nilsl, .int .i64 0, .int .i64 0], some (w.mc 3), some (rows aj.cs w.Shocks), some (rows IntS.cs [0, 96])], 1⟩),
  (4095, ⟨(.ptr 0 0 :: .undef :: .ptr 1 0 :: .ptr 2 0 :: (un 43 (.osl 3 0 w.Shocks.length 5 :: .undef :: .undef :: .int .i64 v6 :: .undef :: .int .i64 v7 :: .undef :: .undef :: .int .i64 v8 :: .ptr 0 0 :: .osl 4 0 2 1 :: (un 6 [])))), [some (c8.cs B), some [.int .i64 0, .nilsl, .nilsl, .int .i64 0, .int .i64 0], some (w.mc 3), some (rows aj.cs w.Shocks), some (rows IntS.cs [0, 96])], 1⟩),
  (8189, ⟨(.ptr 0 0 :: .undef :: .ptr 1 0 :: .ptr 2 0 :: (un 42 (.ptr 2 2 :: (un 3 (.int .i64 v6 :: .undef :: .int .i64 v7 :: .undef :: .undef :: .int .i64 v8 :: .undef :: .undef :: .int .i64 v9 :: (un 5 [])))))), [some (c9.cs B), some [.int .i64 0, .nilsl, .nilsl, .int .i64 0, .int .i64 0], some (w.mc 3), some (rows aj.cs w.Shocks)], 1⟩),
  (8191, ⟨(.ptr 0 0 :: .undef :: .ptr 1 0 :: .ptr 2 0 :: (un 43 (.osl 3 0 w.Shocks.length 5 :: .undef :: .undef :: .int .i64 v6 :: .undef :: .int .i64 v7 :: .undef :: .undef :: .int .i64 v8 :: .undef :: .undef :: .int .i64 v9 :: (un 5 [])))), [some (c9.cs B), some [.int .i64 0, .nilsl, .nilsl, .int .i64 0, .int .i64 0], some (w.mc 3), some (rows aj.cs w.Shocks)], 1⟩),
  (16381, ⟨(.ptr 0 0 :: .undef :: .ptr 1 0 :: .ptr 2 0 :: (un 42 (.ptr 2 2 :: (un 12 (.agg [.int .i64 v6, .int .i64 v7, .int .i64 v8, .int .i64 v9, .int .i64 0] :: (un 4 [])))))), [some (c9.cs B), some [.int .i64 0, .nilsl, .nilsl, .int .i64 0, .int .i64 0], some (w.mc 3), some (rows aj.cs w.Shocks)], 1⟩),
  (16383, ⟨(.ptr 0 0 :: .undef :: .ptr 1 0 :: .ptr 2 0 :: (un 43 (.osl 3 0 w.Shocks.length 5 :: (un 11 (.agg [.int .i64 v6, .int .i64 v7, .int .i64 v8, .int .i64 v9, .int .i64 0] :: (un 4 [])))))), [some (c9.cs B), some [.int .i64 0, .nilsl, .nilsl, .int .i64 0, .int .i64 0], some (w.mc 3), some (rows aj.cs w.Shocks)], 1⟩),
  (32765, ⟨(.ptr 0 0 :: .undef :: .ptr 1 0 :: .ptr 2 0 :: (un 42 (.ptr 2 2 :: (un 13 (.osl 4 0 1 5 :: (un 3 [])))))), [some (c9.cs B), some [.int .i64 0, .nilsl, .nilsl, .int .i64 0, .int .i64 0], some (w.mc 3), some (rows aj.cs w.Shocks), some [.int .i64 v6, .int .i64 v7, .int .i64 v8, .int .i64 v9, .int .i64 0]], 1⟩),
  (32767, ⟨(.ptr 0 0 :: .undef :: .ptr 1 0 :: .ptr 2 0 :: (un 43 (.osl 3 0 w.Shocks.length 5 :: (un 12 (.osl 4 0 1 5 :: (un 3 [])))))), [some (c9.cs B), some [.int .i64 0, .nilsl, .nilsl, .int .i64 0, .int .i64 0], some (w.mc 3), some (rows aj.cs w.Shocks), some [.int .i64 v6, .int .i64 v7, .int .i64 v8, .int .i64 v9, .int .i64 0]], 1⟩),
  (65535, ⟨(.ptr 0 0 :: .undef :: .ptr 1 0 :: .ptr 2 0 :: (un 57 (.osl 3 0 (w.Shocks.length + 1) 5 :: .undef :: .undef :: []))), [some (c9.cs B), some [.int .i64 0, .nilsl, .nilsl, .int .i64 0, .int .i64 0], some [.int .i64 w.Now, .sl w.Posts.length 3 (rows bf.cs w.Posts), .undef, .int .i64 w.Next, .int .i64 w.Archived], some (rows aj.cs (w.Shocks ++ [⟨v6, v7, v8, v9, 0⟩]))], 1⟩),
  (131071, ⟨(.ptr 0 0 :: .undef :: .ptr 1 0 :: .ptr 2 0 :: (un 57 (.osl 3 0 (w.Shocks.length + 1) 5 :: .ptr 2 2 :: .undef :: []))), [some (c9.cs B), some [.int .i64 0, .nilsl, .nilsl, .int .i64 0, .int .i64 0], some [.int .i64 w.Now, .sl w.Posts.length 3 (rows bf.cs w.Posts), .undef, .int .i64 w.Next, .int .i64 w.Archived], some (rows aj.cs (w.Shocks ++ [⟨v6, v7, v8, v9, 0⟩]))], 1⟩),
  (262143, ⟨(.ptr 0 0 :: .undef :: .ptr 1 0 :: .ptr 2 0 :: (un 60 [])), [some (c9.cs B), some [.int .i64 0, .nilsl, .nilsl, .int .i64 0, .int .i64 0], some [.int .i64 w.Now, .sl w.Posts.length 3 (rows bf.cs w.Posts), .osl 3 0 (w.Shocks.length + 1) 5, .int .i64 w.Next, .int .i64 w.Archived], some (rows aj.cs (w.Shocks ++ [⟨v6, v7, v8, v9, 0⟩]))], 1⟩)]
theorem l9 {B : List Int} {k : Int} {h : Hp} {r : V} {c : Cur} (w : ab) (h0 : h[0]? = some (some (c.cs B))) (hle : LeV (ren (bc [0] h true) 3 r) w.v) (hw : w.ok) (hp : w.Posts.length ≤ 100) (hs : w.Shocks.length ≤ 100) (hc : c.le k) (hm : w.sm := by first | assumption | (simp [ab.sm]; done) | (simp [ab.sm]; assumption) | exact ab.atv (by assumption) (by assumption)) : x9 1 r h (aqt B k) := by
 refine ⟨_, _, ⟨w, c, ⟨hw, hm⟩, hp, hs, hc, rfl, rfl⟩, ak.pick [0] (by decide) (fun j hj => by cases j <;> simp_all) hle ?_⟩
 simp only [az, List.map_cons, List.map_nil, bg, h0, Cur.ren]
theorem ap8 (w : ab) (x : aj) {h : Hp} (h3 : h[3]? = some (some (rows aj.cs (w.Shocks ++ [x])))) : (⟨w.Now, w.Posts, w.Shocks ++ [x], w.Next, w.Archived⟩ : ab).v = ren (bc [0] h true) 3 (.agg [.int .i64 w.Now, .sl w.Posts.length 3 (rows bf.cs w.Posts), .osl 3 0 (w.Shocks.length + 1) 5, .int .i64 w.Next, .int .i64 w.Archived]) := by
 generalize hW : w.Shocks ++ [x] = W at *
 have hl : w.Shocks.length + 1 = W.length := by rw [← hW]; simp
 rw [hl]
 simp [ren, bc, posOf, nj, h3, ae, cr, ab.v]
theorem aq9 {B : List Int} (hB : CB B) {k : Int} (hk : k ≤ 100000) {c : Cur} (hc : c.le k) : ml Tryz.prog 59 [.ptr 0 0] [some (c.cs B)] (aqt B (k + 2000)) := by
 have hcb : ∀ {c' : Cur} {k' : Int}, c'.le k' → k' ≤ 4000000 → c'.le 4611686018427387903 := fun h h' => ⟨h.1, by have := h.2; omega⟩
 refine ml.intro Tryz.mixed Tryz.func59 rfl Tryz.a5i ?_
 refine ev2 @Tryz.ntmps59 @Tryz.results59 ?_
 refine rn0 ?_
 refine ai.rel [0] (aay hB (by omega) hc) (by decide) ⟨leO, trivial⟩ (dp rfl) rfl (fun r hout hΦ => ?_)
 obtain ⟨K, c1, hK, hc1, rfl, rfl⟩ := hΦ
 refine ⟨⟨⟨rfl, rfl⟩, trivial⟩, ?_⟩
 refine rn3 @Cur.ren @ae @List.getElem?_nil.{0} ?_
 have zsm : ab.sm ⟨0, [], [], 0, 0⟩ := by simp [ab.sm]
 have zok : ab.ok ⟨0, [], [], 0, 0⟩ := by simp [ab.ok, bt, aes]
 have cz : ∀ k n v : Int, v ≤ 9223372036854775807 → Ctr Tryz.prog 101 [ab.v ⟨0, [], [], 0, 0⟩, .agg [.int .i64 k, .int .i64 n, .int .i64 v]] [] (.tup [ai5, .bool false]) [] := by
  intro k n v hv
  have h := sk ⟨0, [], [], 0, 0⟩ k n v (by simp) (by simp) hv
  have hz : fi ⟨0, [], [], 0, 0⟩ k n v = none := by simp [fi, wB, j2, fb]
  rw [hz] at h
  exact h
 cases hb : wB (yh K) with
 | false =>
  (have ct := ahu K (by omega) hb; (first | refine al.at ct ⟨lv, trivial⟩ ?_ | refine ai.at ct ⟨lv, trivial⟩ ?_); clear ct)
  refine rn2 @ak0.eq_1 @Cur.ren ?_
  refine gy hB hc1 (by omega) 30 (by omega) rfl (fun vc2 c2 pvc2 hc2 => ?_)
  refine rn2 @Cur.ren @ae ?_
  obtain ⟨n0, hn0⟩ : ∃ n : Nat, vc2 = n := ⟨vc2.toNat, by omega⟩
  subst hn0
  refine dh.intro (fun x : Nat × Cur => x.1 ≤ 30 ∧ x.2.le (k + 102 + 30 * (30 - (x.1 : Int)))) (fun x => ⟨(.ptr 0 0 :: .undef :: .ptr 1 0 :: .ptr 2 0 :: .undef :: .int .i64 x.1 :: (un 58 [])), [some (x.2.cs B), some [.int .i64 0, .nilsl, .nilsl, .int .i64 0, .int .i64 0], some [.int .i64 0, .nilsl, .nilsl, .int .i64 0, .int .i64 0]], 1⟩) (fun x => x.1) (n0, c2) ⟨by simp only []; omega, cf hc2 (by simp only []; omega)⟩ ?_ (fun x hx => ?_)
  · refine aq.pick [0, 1, 3] (by decide) (fun j hj => by cases j <;> simp_all) ?_ ?_
    · simp [LeG, LeC, LeV, ren, bc, posOf]
    · simp [az, bg, Cur.ren, ren]
  obtain ⟨n, c3⟩ := x
  obtain ⟨x1, hc3⟩ := hx
  dsimp only at x1 hc3
  refine ev0 ?_
  refine ax.split (fun h1 => ?_) (fun h1 => ?_)
  · have hn : 0 < n := by have := of_decide_eq_true h1; omega
    refine rn1 @h1 ?_
    refine clT.tree (fun s2 => ∃ (c4 : Cur), c4.le (k + 102 + 30 * (30 - (n : Int)) + 20) ∧ s2 = ⟨(.ptr 0 0 :: .undef :: .ptr 1 0 :: .ptr 2 0 :: .undef :: .int .i64 n :: .undef :: .bool false :: (un 56 [])), [some (c4.cs B), some [.int .i64 0, .nilsl, .nilsl, .int .i64 0, .int .i64 0], some [.int .i64 0, .nilsl, .nilsl, .int .i64 0, .int .i64 0]], 1⟩) (.take 1 (.alt 0 (.alt 2 (.alt 3 (.alt 4 (.take 5 (.take 6 (.take 7 (.alt 8 (.alt 9 (.alt 10 .done .stop) .stop) .stop)))) (.alt 8 (.alt 4 (.take 5 (.take 6 (.take 7 (.alt 9 (.alt 10 .done .stop) .stop)))) .stop) .stop)) (.alt 8 (.alt 3 (.alt 4 (.take 5 (.take 6 (.take 7 (.alt 9 (.alt 10 .done .stop) .stop)))) .stop) .stop) .stop)) (.alt 8 (.alt 2 (.alt 3 (.alt 4 (.take 5 (.take 6 (.take 7 (.alt 9 (.alt 10 .done .stop) .stop)))) .stop) .stop) .stop) .stop)) (.alt 2 (.alt 0 (.alt 3 (.alt 4 (.take 5 (.take 6 (.take 7 (.alt 8 (.alt 9 (.alt 10 .done .stop) .stop) .stop)))) (.alt 8 (.alt 4 (.take 5 (.take 6 (.take 7 (.alt 9 (.alt 10 .done .stop) .stop)))) .stop) .stop)) (.alt 8 (.alt 3 (.alt 4 (.take 5 (.take 6 (.take 7 (.alt 9 (.alt 10 .done .stop) .stop)))) .stop) .stop) .stop)) (.alt 3 (.alt 0 (.alt 4 (.take 5 (.take 6 (.take 7 (.alt 8 (.alt 9 (.alt 10 .done .stop) .stop) .stop)))) (.alt 8 (.alt 4 (.take 5 (.take 6 (.take 7 (.alt 9 (.alt 10 .done .stop) .stop)))) .stop) .stop)) (.alt 8 (.alt 0 (.alt 4 (.take 5 (.take 6 (.take 7 (.alt 9 (.alt 10 .done .stop) .stop)))) .stop) .stop) .stop)) (.alt 8 (.alt 0 (.alt 3 (.alt 4 (.take 5 (.take 6 (.take 7 (.alt 9 (.alt 10 .done .stop) .stop)))) .stop) .stop) (.alt 3 (.alt 0 (.alt 4 (.take 5 (.take 6 (.take 7 (.alt 9 (.alt 10 .done .stop) .stop)))) .stop) .stop) .stop)) .stop))) (.alt 8 (.alt 0 (.alt 2 (.alt 3 (.alt 4 (.take 5 (.take 6 (.take 7 (.alt 9 (.alt 10 .done .stop) .stop)))) .stop) .stop) .stop) (.alt 2 (.alt 0 (.alt 3 (.alt 4 (.take 5 (.take 6 (.take 7 (.alt 9 (.alt 10 .done .stop) .stop)))) .stop) .stop) (.alt 3 (.alt 0 (.alt 4 (.take 5 (.take 6 (.take 7 (.alt 9 (.alt 10 .done .stop) .stop)))) .stop) .stop) .stop)) .stop)) .stop)))) (by kernel_rfl) (fun s2 hs2 => ?_) ?_
    · obtain ⟨c4, hc4, rfl⟩ := hs2
      refine rn0 ?_
      have hn1 : ((n - 1 : Nat) : Int) = (n : Int) - 1 := by omega
      refine ⟨(n - 1, c4), ⟨by simp only []; omega, cf hc4 (by simp only []; omega)⟩, ?_, by simp only []; omega⟩
      refine aq.cut (3) (by simp) (by simp) ?_ ?_
      · simp [LeC, LeV, ren, bj, hn1]
      · simp [bz, ck, Cur.ren, ren]
    · refine rn0 ?_
      repeat' (first | (refine ai.rel [0] (aaj hB (by omega) hc3 ⟨0, [], [], 0, 0⟩ zsm (by simp) (by simp)) (by decide) ⟨leO, leO, trivial⟩ (dp rfl) rfl (fun r hout hΦ => ?_); obtain ⟨s, c4, hs, hc4, rfl, rfl⟩ := hΦ; refine ⟨⟨⟨rfl, rfl⟩, trivial⟩, ?_⟩; refine rn2 @Cur.ren @cm.v.eq_1 ?_) | ((have ct := cz s.Kind s.Number s.Value (by have := hs.2.2.2; omega); (first | refine al.at ct ⟨lv, lv, trivial⟩ ?_ | refine ai.at ct ⟨lv, lv, trivial⟩ ?_); clear ct); refine rn2 @Cur.ren @ai5.eq_1 ?_) | (refine And.intro ?_ ?_) | exact trivial)
      all_goals
       refine ⟨_, ⟨c4, cf hc4 (by omega), rfl⟩, ?_⟩
       refine aq.cut (3) (by simp) (by simp) ?_ ?_
       · simp [LeC, LeV, ren, bj]
       · simp [bz, ck, Cur.ren, ren]
  · refine rn1 @h1 ?_
    refine gy hB hc3 (by omega) 32 (by omega) rfl (fun vc5 c5 pvc5 hc5 => ?_)
    refine rn1 @Cur.ren ?_
    refine ax.split (fun h3 => ?_) (fun h3 => ?_)
    · refine rn1 @h3 ?_
      refine an hB hc5 (by omega) [-1, 0, 1000001] (by simp) (by simp) rfl rfl rfl (fun vc6 c6 pvc6 hc6 => ?_)
      refine rn1 @Cur.ren ?_
      have hv6 : bt vc6 := bo pvc6 (by simp [bt])
      exact l9 ⟨vc6, [], [], 0, 0⟩ rfl leO (by simp [ab.ok, aes, hv6]; simp [bt]) (by simp) (by simp) (cf hc6 (by omega))
    · refine rn1 @h3 ?_
      refine ax.split (fun h4 => ?_) (fun h4 => ?_)
      · refine rn1 @h4 ?_
        refine an hB hc5 (by omega) [0, 1, 999, 1000] (by simp) (by simp) rfl rfl rfl (fun vc6 c6 pvc6 hc6 => ?_)
        refine rn1 @Cur.ren ?_
        have hv6 : bt vc6 := bo pvc6 (by simp [bt])
        exact l9 ⟨0, [], [], vc6, 0⟩ rfl leO (by simp [ab.ok, aes, hv6]; simp [bt]) (by simp) (by simp) (cf hc6 (by omega))
      · refine rn1 @h4 ?_
        refine ax.split (fun h5 => ?_) (fun h5 => ?_)
        · refine rn1 @h5 ?_
          have p6 := oq hB (hcb hc5 (by omega)) [0, 1] (by simp) (by simp)
          have hc6 := dk (B := B) (n := (([0, 1] : List Int).length : Int)) hc5
          have m6 := l8 hB (K := [0, 1]) (by simp) hc5.1
          generalize mz B [0, 1] c5 = v6 at p6 m6
          generalize ff B (([0, 1] : List Int).length : Int) c5 = c6 at p6 hc6
          have p7 := jz hB (hcb hc6 (by omega)) 5 (by omega)
          have hc7 := dk (B := B) (n := 5) hc6
          have m7 := e9 hB (n := 5) hc6.1
          generalize iu B 5 c6 = v7 at p7 m7
          generalize ff B 5 c6 = c7 at p7 hc7
          have p8 := oq hB (hcb hc7 (by omega)) [0, 9] (by simp) (by simp)
          have hc8 := dk (B := B) (n := (([0, 9] : List Int).length : Int)) hc7
          have m8 := l8 hB (K := [0, 9]) (by simp) hc7.1
          generalize mz B [0, 9] c7 = v8 at p8 m8
          generalize ff B (([0, 9] : List Int).length : Int) c7 = c8 at p8 hc8
          have p9 := oq hB (hcb hc8 (by omega)) [0, 96] (by simp) (by simp)
          have hc9 := dk (B := B) (n := (([0, 96] : List Int).length : Int)) hc8
          have m9 := l8 hB (K := [0, 96]) (by simp) hc8.1
          generalize mz B [0, 96] c8 = v9 at p9 m9
          generalize ff B (([0, 96] : List Int).length : Int) c8 = c9 at p9 hc9
          have hx6 : sR v6 := cu m6 (by simp [sR])
          have hx : aj.ok ⟨v6, v7, v8, v9, 0⟩ := ⟨bo m6 (by simp [bt]), (show bt v7 from ⟨by omega, by omega⟩), bo m8 (by simp [bt]), bo m9 (by simp [bt]), by simp [bt]⟩
          refine clT.graph [(262143, []), (131071, [17]), (65535, [16]), (32767, [15]), (32765, [1]), (16383, [14]), (16381, [1, 14]), (8191, [13]), (8189, [1, 13]), (4095, [12]), (4093, [1, 12]), (3583, [9]), (3581, [1, 9]), (3519, [6]), (3517, [1, 6]), (3503, [4]), (3501, [1, 4]), (3495, [3]), (3493, [1, 3]), (3327, [8]), (3325, [1, 8]), (3263, [6, 8]), (3261, [1, 6, 8]), (3247, [4, 8]), (3245, [1, 4, 8]), (3239, [3, 8]), (3237, [1, 3, 8]), (2047, [11]), (2045, [1, 11]), (1535, [9, 11]), (1533, [1, 9, 11]), (1471, [6, 11]), (1469, [1, 6, 11]), (1455, [4, 11]), (1453, [1, 4, 11]), (1447, [3, 11]), (1445, [1, 3, 11]), (1279, [8, 11]), (1277, [1, 8, 11]), (1215, [6, 8, 11]), (1213, [1, 6, 8, 11]), (1199, [4, 8, 11]), (1197, [1, 4, 8, 11]), (1191, [3, 8, 11]), (1189, [1, 3, 8, 11]), (165, [10]), (37, [7]), (5, [5]), (1, [2]), (0, [0])] (gA _ (tabZ B c5 c6 c7 c8 c9 v6 v7 v8 v9)) (by kernel_rfl) rfl ?_
          refine ⟨fun s hs => ?_, fun s hs => ?_, fun s hs => ?_, fun s hs => ?_, fun s hs => ?_, fun s hs => ?_, fun s hs => ?_, fun s hs => ?_, fun s hs => ?_, fun s hs => ?_, fun s hs => ?_, fun s hs => ?_, fun s hs => ?_, fun s hs => ?_, fun s hs => ?_, fun s hs => ?_, fun s hs => ?_, fun s hs => ?_, fun s hs => ?_, fun s hs => ?_, fun s hs => ?_, fun s hs => ?_, fun s hs => ?_, fun s hs => ?_, fun s hs => ?_, fun s hs => ?_, fun s hs => ?_, fun s hs => ?_, fun s hs => ?_, fun s hs => ?_, fun s hs => ?_, fun s hs => ?_, fun s hs => ?_, fun s hs => ?_, fun s hs => ?_, fun s hs => ?_, fun s hs => ?_, fun s hs => ?_, fun s hs => ?_, fun s hs => ?_, fun s hs => ?_, fun s hs => ?_, fun s hs => ?_, fun s hs => ?_, fun s hs => ?_, fun s hs => ?_, fun s hs => ?_, fun s hs => ?_, fun s hs => ?_, fun s hs => ?_, trivial⟩
          · obtain rfl := Option.some.inj (show some _ = some s from hs)
            refine rn0 ?_
            exact l9 ⟨0, [], [⟨v6, v7, v8, v9, 0⟩], 0, 0⟩ rfl (LeV.aro ⟨.inl rfl, LeE.nil, .inl (by simp [ren, bc, posOf, nj, rows, aj.cs]), .inl rfl, .inl rfl, trivial⟩) ⟨by simp [bt], by simp [aes], ⟨by simp, fun y hy => by rw [List.mem_singleton.1 hy]; exact hx⟩, by simp [bt], by simp [bt]⟩ (by simp) (by simp) (cf hc9 (by omega))
          all_goals (obtain rfl := Option.some.inj (show some _ = some s from hs))
          all_goals (repeat' (first | exact trivial | refine ac0 rfl ?_ ?_))
          all_goals refine rn0 ?_
          all_goals (try ((first | refine ai.df [0, 3] false p9 (by decide) ⟨leO, leO, trivial⟩ (bq rfl rfl) (bp B _ _) (.inl rfl) ?_ | refine ai.df [0, 3] false p8 (by decide) ⟨leO, leO, trivial⟩ (bq rfl rfl) (bp B _ _) (.inl rfl) ?_ | refine ai.df [0] false p7 (by decide) ⟨leO, leO, trivial⟩ (dp rfl) (ig B _ _) (.inl rfl) ?_ | refine ai.df [0, 3] false p6 (by decide) ⟨leO, leO, trivial⟩ (bq rfl rfl) (bp B _ _) (.inl rfl) ?_); refine rn2 @Cur.ren @ae ?_))
          refine ⟨_, rfl, aq.pk [0, 1, 2, 3] ?_ ?_⟩
          rotate_left 2
          refine ⟨_, rfl, aq.pk [0, 1, 2, 3] ?_ ?_⟩
          rotate_left 2
          refine ⟨_, rfl, aq.pk [0, 1, 2, 4] ?_ ?_⟩
          rotate_left 2
          refine ⟨_, rfl, aq.pk [0, 1, 2, 3] ?_ ?_⟩
          rotate_left 2
          refine ⟨_, rfl, aq.pk [0, 1, 2, 3] ?_ ?_⟩
          rotate_left 2
          refine ⟨_, rfl, aq.pk [0, 1, 2] ?_ ?_⟩
          rotate_left 2
          refine ⟨_, rfl, aq.pk [0, 1, 2, 3] ?_ ?_⟩
          rotate_left 2
          refine ⟨_, rfl, aq.pk [0, 1, 2] ?_ ?_⟩
          rotate_left 2
          refine ⟨_, rfl, aq.pk [0, 1, 2] ?_ ?_⟩
          rotate_left 2
          refine ⟨_, rfl, aq.pk [0, 1, 2] ?_ ?_⟩
          rotate_left 2
          refine ⟨_, rfl, aq.pk [0, 1, 2] ?_ ?_⟩
          rotate_left 2
          refine ⟨_, rfl, aq.pk [0, 1, 2, 3] ?_ ?_⟩
          rotate_left 2
          refine ⟨_, rfl, aq.pk [0, 1, 2] ?_ ?_⟩
          rotate_left 2
          refine ⟨_, rfl, aq.pk [0, 1, 2, 4] ?_ ?_⟩
          rotate_left 2
          refine ⟨_, rfl, aq.pk [0, 1, 2, 3, 4] ?_ ?_⟩
          rotate_left 2
          refine ⟨_, rfl, aq.pk [0, 1, 2, 4] ?_ ?_⟩
          rotate_left 2
          refine ⟨_, rfl, aq.pk [0, 1, 2, 3, 4] ?_ ?_⟩
          rotate_left 2
          refine ⟨_, rfl, aq.pk [0, 1, 2, 3, 4] ?_ ?_⟩
          rotate_left 2
          refine ⟨_, rfl, aq.pk [0, 1, 2, 3, 4] ?_ ?_⟩
          rotate_left 2
          refine ⟨_, rfl, aq.pk [0, 1, 2, 4, 5] ?_ ?_⟩
          rotate_left 2
          refine ⟨_, rfl, aq.pk [0, 1, 2, 3, 4, 5] ?_ ?_⟩
          rotate_left 2
          refine ⟨_, rfl, aq.pk [0, 1, 2, 4, 5] ?_ ?_⟩
          rotate_left 2
          refine ⟨_, rfl, aq.pk [0, 1, 2, 5, 3, 4] ?_ ?_⟩
          rotate_left 2
          refine ⟨_, rfl, aq.pk [0, 1, 2, 3, 4] ?_ ?_⟩
          rotate_left 2
          refine ⟨_, rfl, aq.pk [0, 1, 2, 5, 3, 4] ?_ ?_⟩
          rotate_left 2
          refine ⟨_, rfl, aq.pk [0, 1, 2, 4, 3] ?_ ?_⟩
          rotate_left 2
          refine ⟨_, rfl, aq.pk [0, 1, 2, 3] ?_ ?_⟩
          rotate_left 2
          refine ⟨_, rfl, aq.pk [0, 1, 2, 4, 3] ?_ ?_⟩
          rotate_left 2
          refine ⟨_, rfl, aq.pk [0, 1, 2, 3] ?_ ?_⟩
          rotate_left 2
          refine ⟨_, rfl, aq.pk [0, 1, 2, 4, 3] ?_ ?_⟩
          rotate_left 2
          refine ⟨_, rfl, aq.pk [0, 1, 2, 3] ?_ ?_⟩
          rotate_left 2
          refine ⟨_, rfl, aq.pk [0, 1, 2, 3] ?_ ?_⟩
          rotate_left 2
          refine ⟨_, rfl, aq.pk [0, 1, 2, 4, 3] ?_ ?_⟩
          rotate_left 2
          refine ⟨_, rfl, aq.pk [0, 1, 2, 4] ?_ ?_⟩
          rotate_left 2
          refine ⟨_, rfl, aq.pk [0, 1, 2, 3, 5, 4] ?_ ?_⟩
          rotate_left 2
          refine ⟨_, rfl, aq.pk [0, 1, 2, 3, 4] ?_ ?_⟩
          rotate_left 2
          refine ⟨_, rfl, aq.pk [0, 1, 2, 4] ?_ ?_⟩
          rotate_left 2
          refine ⟨_, rfl, aq.pk [0, 1, 2, 3, 5, 4] ?_ ?_⟩
          rotate_left 2
          refine ⟨_, rfl, aq.pk [0, 1, 2, 4, 3] ?_ ?_⟩
          rotate_left 2
          refine ⟨_, rfl, aq.pk [0, 1, 2, 4, 3] ?_ ?_⟩
          rotate_left 2
          refine ⟨_, rfl, aq.pk [0, 1, 2, 3] ?_ ?_⟩
          rotate_left 2
          refine ⟨_, rfl, aq.pk [0, 1, 2, 4, 3] ?_ ?_⟩
          rotate_left 2
          refine ⟨_, rfl, aq.pk [0, 1, 2, 4, 3] ?_ ?_⟩
          rotate_left 2
          refine ⟨_, rfl, aq.pk [0, 1, 2, 3] ?_ ?_⟩
          rotate_left 2
          refine ⟨_, rfl, aq.pk [0, 1, 2] ?_ ?_⟩
          rotate_left 2
          refine ⟨_, rfl, aq.pk [0, 1, 2, 3] ?_ ?_⟩
          rotate_left 2
          refine ⟨_, rfl, aq.pk [0, 1, 2] ?_ ?_⟩
          rotate_left 2
          refine ⟨_, rfl, aq.pk [0, 1, 2, 3, 4] ?_ ?_⟩
          rotate_left 2
          refine ⟨_, rfl, aq.pk [0, 1, 2, 3] ?_ ?_⟩
          rotate_left 2
          refine ⟨_, rfl, aq.pk [0, 1, 2] ?_ ?_⟩
          rotate_left 2
          refine ⟨_, rfl, aq.pk [0, 1, 2, 3, 4] ?_ ?_⟩
          rotate_left 2
          refine ⟨_, rfl, aq.pk [0, 1, 2, 3] ?_ ?_⟩
          rotate_left 2
          refine ⟨_, rfl, aq.pk [0, 1, 2, 3, 4] ?_ ?_⟩
          rotate_left 2
          refine ⟨_, rfl, aq.pk [0, 1, 2, 3] ?_ ?_⟩
          rotate_left 2
          refine ⟨_, rfl, aq.pk [0, 1, 2, 3] ?_ ?_⟩
          rotate_left 2
          refine ⟨_, rfl, aq.pk [0, 1, 2, 3, 4] ?_ ?_⟩
          rotate_left 2
          refine ⟨_, rfl, aq.pk [0, 1, 2, 4] ?_ ?_⟩
          rotate_left 2
          refine ⟨_, rfl, aq.pk [0, 1, 2, 3, 4, 5] ?_ ?_⟩
          rotate_left 2
          refine ⟨_, rfl, aq.pk [0, 1, 2, 3, 4] ?_ ?_⟩
          rotate_left 2
          refine ⟨_, rfl, aq.pk [0, 1, 2, 4] ?_ ?_⟩
          rotate_left 2
          refine ⟨_, rfl, aq.pk [0, 1, 2, 3, 4, 5] ?_ ?_⟩
          rotate_left 2
          refine ⟨_, rfl, aq.pk [0, 1, 2, 4, 3] ?_ ?_⟩
          rotate_left 2
          refine ⟨_, rfl, aq.pk [0, 1, 2, 3, 4] ?_ ?_⟩
          rotate_left 2
          refine ⟨_, rfl, aq.pk [0, 1, 2, 3] ?_ ?_⟩
          rotate_left 2
          refine ⟨_, rfl, aq.pk [0, 1, 2, 4, 3] ?_ ?_⟩
          rotate_left 2
          refine ⟨_, rfl, aq.pk [0, 1, 2, 3, 4] ?_ ?_⟩
          rotate_left 2
          refine ⟨_, rfl, aq.pk [0, 1, 2, 3] ?_ ?_⟩
          rotate_left 2
          refine ⟨_, rfl, aq.pk [0, 1, 2, 3] ?_ ?_⟩
          rotate_left 2
          refine ⟨_, rfl, aq.pk [0, 1, 2] ?_ ?_⟩
          rotate_left 2
          refine ⟨_, rfl, aq.pk [0, 1, 2, 3] ?_ ?_⟩
          rotate_left 2
          refine ⟨_, rfl, aq.pk [0, 1, 2, 3] ?_ ?_⟩
          rotate_left 2
          refine ⟨_, rfl, aq.pk [0, 1, 2] ?_ ?_⟩
          rotate_left 2
          refine ⟨_, rfl, aq.pk [0, 1, 2, 3] ?_ ?_⟩
          rotate_left 2
          refine ⟨_, rfl, aq.pk [0, 1, 2, 3] ?_ ?_⟩
          rotate_left 2
          refine ⟨_, rfl, aq.pk [0, 1, 2] ?_ ?_⟩
          rotate_left 2
          refine ⟨_, rfl, aq.pk [0, 1, 2] ?_ ?_⟩
          rotate_left 2
          refine ⟨_, rfl, aq.pk [0, 1, 2, 3] ?_ ?_⟩
          rotate_left 2
          refine ⟨_, rfl, aq.pk [0, 1, 2, 3] ?_ ?_⟩
          rotate_left 2
          refine ⟨_, rfl, aq.pk [0, 1, 2] ?_ ?_⟩
          rotate_left 2
          refine ⟨_, rfl, aq.pk [0, 1, 2, 3, 4] ?_ ?_⟩
          rotate_left 2
          refine ⟨_, rfl, aq.pk [0, 1, 2, 3, 4] ?_ ?_⟩
          rotate_left 2
          refine ⟨_, rfl, aq.pk [0, 1, 2, 3] ?_ ?_⟩
          rotate_left 2
          refine ⟨_, rfl, aq.pk [0, 1, 2] ?_ ?_⟩
          rotate_left 2
          refine ⟨_, rfl, aq.pk [0, 1, 2, 3, 4] ?_ ?_⟩
          rotate_left 2
          refine ⟨_, rfl, aq.pk [0, 1, 2, 3, 4] ?_ ?_⟩
          rotate_left 2
          refine ⟨_, rfl, aq.pk [0, 1, 2, 3] ?_ ?_⟩
          rotate_left 2
          refine ⟨_, rfl, aq.pk [0, 1, 2, 3] ?_ ?_⟩
          rotate_left 2
          refine ⟨_, rfl, aq.pk [0, 1, 2, 3] ?_ ?_⟩
          rotate_left 2
          refine ⟨_, rfl, aq.pk [0, 1, 2] ?_ ?_⟩
          rotate_left 2
          refine ⟨_, rfl, aq.pk [0, 1, 2, 3] ?_ ?_⟩
          rotate_left 2
          refine ⟨_, rfl, aq.pk [0, 1, 2, 3] ?_ ?_⟩
          rotate_left 2
          refine ⟨_, rfl, aq.pk [0, 1, 2, 3] ?_ ?_⟩
          rotate_left 2
          refine ⟨_, rfl, aq.pk [0, 1, 2] ?_ ?_⟩
          rotate_left 2
          refine ⟨_, rfl, aq.pk [0, 1, 2] ?_ ?_⟩
          rotate_left 2
          refine ⟨_, rfl, aq.pk [0, 1, 2] ?_ ?_⟩
          rotate_left 2
          refine ⟨_, rfl, aq.pk [0, 1, 2] ?_ ?_⟩
          rotate_left 2
          refine ⟨_, rfl, aq.pk [0, 1, 2] ?_ ?_⟩
          rotate_left 2
          all_goals (first | rfl | (simp [LeG, LeC, LeV, ren, bc, posOf]; done) | (simp [az, bg, bc, posOf, Cur.ren, ren, ae, rows, IntS.cs]; done) | (simp [az, bg, bc, posOf, Cur.ren, ren, ae]; done) | (simp [az, bg, bc, posOf, Cur.ren, ren, ae] <;> rfl))
        · refine rn1 @h5 ?_
          exact l9 ⟨0, [], [], 0, 0⟩ rfl leO zok (by simp) (by simp) (cf hc5 (by omega))
 | true =>
  (have ct := ahv K (by omega) hb; (first | refine al.at ct ⟨lv, trivial⟩ ?_ | refine ai.at ct ⟨lv, trivial⟩ ?_); clear ct)
  refine rn1 @Cur.ren ?_
  refine gy hB hc1 (by omega) 30 (by omega) rfl (fun vc2 c2 pvc2 hc2 => ?_)
  refine rn2 @Cur.ren @ae ?_
  obtain ⟨n0, hn0⟩ : ∃ n : Nat, vc2 = n := ⟨vc2.toNat, by omega⟩
  subst hn0
  refine dh.intro (fun x : Nat × ab × Cur => x.1 ≤ 30 ∧ wB x.2.1 = true ∧ x.2.2.le (k + 102 + 30 * (30 - (x.1 : Int)))) (fun x => ⟨(.ptr 0 0 :: .undef :: .ptr 1 0 :: .ptr 2 0 :: .undef :: .int .i64 x.1 :: (un 58 [])), [some (x.2.2.cs B), some [.int .i64 0, .nilsl, .nilsl, .int .i64 0, .int .i64 0], some (x.2.1.mc 3), some (rows aj.cs x.2.1.Shocks)], 1⟩) (fun x => x.1) (n0, yh K, c2) ⟨by simp only []; omega, hb, cf hc2 (by simp only []; omega)⟩ ?_ (fun x hx => ?_)
  · refine aq.pick [0, 1, 5, 4] (by decide) (fun j hj => by cases j <;> simp_all) ?_ ?_
    · simp [LeG, LeC, LeV, ren, bc, posOf]
    · have hlk : (gq K).length = K.length := by simp [gq]
      have htk : (rows bf.cs (gq K)).take (K.length * 3) = rows bf.cs (gq K) := List.take_of_length_le (by rw [lk (w := 3) bf.csl, hlk]; exact Nat.le_refl _)
      simp [az, bg, Cur.ren, ren, bc, posOf, nj, ab.mc, yh, ae, hlk, htk, yn]
  obtain ⟨n, w, c3⟩ := x
  obtain ⟨x1, hwB, hc3⟩ := hx
  dsimp only at x1 hwB hc3
  refine ev0 ?_
  refine ax.split (fun h1 => ?_) (fun h1 => ?_)
  · have hn : 0 < n := by have := of_decide_eq_true h1; omega
    obtain ⟨wk, wp, ws⟩ := akx hwB
    refine rn2 @h1 @ab.mc.eq_1 ?_
    refine clT.tree (fun s2 => (∃ (c4 : Cur), c4.le (k + 102 + 30 * (30 - (n : Int)) + 20) ∧ s2 = ⟨(.ptr 0 0 :: .undef :: .ptr 1 0 :: .ptr 2 0 :: .undef :: .int .i64 n :: .undef :: .bool false :: (un 56 [])), [some (c4.cs B), some [.int .i64 0, .nilsl, .nilsl, .int .i64 0, .int .i64 0], some (w.mc 3), some (rows aj.cs w.Shocks)], 1⟩) ∨ (∃ (w' : ab) (c4 : Cur), wB w' = true ∧ c4.le (k + 102 + 30 * (30 - (n : Int)) + 20) ∧ s2 = ⟨(.ptr 0 0 :: .undef :: .ptr 1 0 :: .ptr 2 0 :: .undef :: .int .i64 n :: .ptr 4 0 :: .bool true :: (un 56 [])), [some (c4.cs B), some [.int .i64 0, .nilsl, .nilsl, .int .i64 0, .int .i64 0], some (w.mc 3), some (rows aj.cs w.Shocks), some (w'.mc 5), some (rows aj.cs w'.Shocks)], 1⟩)) (.take 1 (.alt 0 (.alt 2 (.alt 3 (.alt 4 (.take 5 (.take 6 (.take 7 (.alt 8 (.alt 9 (.alt 10 .done .stop) .stop) .stop)))) (.alt 8 (.alt 4 (.take 5 (.take 6 (.take 7 (.alt 9 (.alt 10 .done .stop) .stop)))) .stop) .stop)) (.alt 8 (.alt 3 (.alt 4 (.take 5 (.take 6 (.take 7 (.alt 9 (.alt 10 .done .stop) .stop)))) .stop) .stop) .stop)) (.alt 8 (.alt 2 (.alt 3 (.alt 4 (.take 5 (.take 6 (.take 7 (.alt 9 (.alt 10 .done .stop) .stop)))) .stop) .stop) .stop) .stop)) (.alt 2 (.alt 0 (.alt 3 (.alt 4 (.take 5 (.take 6 (.take 7 (.alt 8 (.alt 9 (.alt 10 .done .stop) .stop) .stop)))) (.alt 8 (.alt 4 (.take 5 (.take 6 (.take 7 (.alt 9 (.alt 10 .done .stop) .stop)))) .stop) .stop)) (.alt 8 (.alt 3 (.alt 4 (.take 5 (.take 6 (.take 7 (.alt 9 (.alt 10 .done .stop) .stop)))) .stop) .stop) .stop)) (.alt 3 (.alt 0 (.alt 4 (.take 5 (.take 6 (.take 7 (.alt 8 (.alt 9 (.alt 10 .done .stop) .stop) .stop)))) (.alt 8 (.alt 4 (.take 5 (.take 6 (.take 7 (.alt 9 (.alt 10 .done .stop) .stop)))) .stop) .stop)) (.alt 8 (.alt 0 (.alt 4 (.take 5 (.take 6 (.take 7 (.alt 9 (.alt 10 .done .stop) .stop)))) .stop) .stop) .stop)) (.alt 8 (.alt 0 (.alt 3 (.alt 4 (.take 5 (.take 6 (.take 7 (.alt 9 (.alt 10 .done .stop) .stop)))) .stop) .stop) (.alt 3 (.alt 0 (.alt 4 (.take 5 (.take 6 (.take 7 (.alt 9 (.alt 10 .done .stop) .stop)))) .stop) .stop) .stop)) .stop))) (.alt 8 (.alt 0 (.alt 2 (.alt 3 (.alt 4 (.take 5 (.take 6 (.take 7 (.alt 9 (.alt 10 .done .stop) .stop)))) .stop) .stop) .stop) (.alt 2 (.alt 0 (.alt 3 (.alt 4 (.take 5 (.take 6 (.take 7 (.alt 9 (.alt 10 .done .stop) .stop)))) .stop) .stop) (.alt 3 (.alt 0 (.alt 4 (.take 5 (.take 6 (.take 7 (.alt 9 (.alt 10 .done .stop) .stop)))) .stop) .stop) .stop)) .stop)) .stop)))) (by kernel_rfl) (fun s2 hs2 => ?_) ?_
    · have hn1 : ((n - 1 : Nat) : Int) = (n : Int) - 1 := by omega
      rcases hs2 with ⟨c4, hc4, rfl⟩ | ⟨w', c4, hwB', hc4, rfl⟩
      · refine rn1 @ab.mc.eq_1 ?_
        refine ⟨(n - 1, w, c4), ⟨by simp only []; omega, hwB, cf hc4 (by simp only []; omega)⟩, ?_, by simp only []; omega⟩
        refine aq.cut (4) (by simp) (by simp) ?_ ?_
        · simp [LeC, LeV, ren, bj, hn1]
        · simp [bz, ck, bj, Cur.ren, ren, ab.mc, ae]
      · refine rn1 @ab.mc.eq_1 ?_
        refine ⟨(n - 1, w', c4), ⟨by simp only []; omega, hwB', cf hc4 (by simp only []; omega)⟩, ?_, by simp only []; omega⟩
        refine aq.pick [0, 1, 2, 5] (by decide) (fun j hj => by cases j <;> simp_all) ?_ ?_
        · simp [LeG, LeC, LeV, ren, bc, posOf, hn1]
        · simp [az, bg, bc, posOf, Cur.ren, ren, ab.mc, ae]
    · refine rn0 ?_
      repeat' (first | (refine ai.rel [0, 3] (ae0 hB (by omega) hc3 w wk (by omega) (by omega)) (by decide) ⟨leO, leO, trivial⟩ (bq rfl rfl) rfl (fun r hout hΦ => ?_); obtain ⟨s, c4, hs, hc4, rfl, rfl⟩ := hΦ; refine ⟨bp B _ _, ?_⟩; have cs := sk w s.Kind s.Number s.Value (by omega) (by omega) hs.2.2.2; rcases hst : fi w s.Kind s.Number s.Value with _ | w' <;> rw [hst] at cs <;> simp only [ado, ad6] at cs <;> refine rn3 @Cur.ren @cm.v.eq_1 @ae ?_) | ((first | refine al.at (cs) ⟨lv, lv, trivial⟩ ?_ | refine ai.at (cs) ⟨lv, lv, trivial⟩ ?_); refine rn4 @Cur.ren @ai5.eq_1 @ab.o.eq_1 @ae ?_) | (refine And.intro ?_ ?_) | exact trivial)
      all_goals first
       | (refine ⟨_, .inl ⟨c4, hc4, rfl⟩, ?_⟩
          refine aq.cut 4 (by simp) (by simp) ?_ ?_
          · (simp [LeC, LeV, ren, bj]; done)
          · (simp [bz, ck, bj, Cur.ren, ren, ab.mc, ae]; done))
       | (refine ⟨_, .inr ⟨w', c4, amw hst, hc4, rfl⟩, ?_⟩
          refine aq.pick [0, 1, 2, 3, 4, 6] (by decide) (fun j hj => by cases j <;> simp_all) ?_ ?_
          · (simp [LeG, LeC, LeV, ren, bc, posOf]; done)
          · (simp [az, bg, bc, posOf, nj, Cur.ren, ren, ab.mc, ae, cr]; done))
       | (refine ⟨_, .inr ⟨w', c4, amw hst, hc4, rfl⟩, ?_⟩
          refine aq.pick [0, 1, 2, 3, 6, 5] (by decide) (fun j hj => by cases j <;> simp_all) ?_ ?_
          · (simp [LeG, LeC, LeV, ren, bc, posOf]; done)
          · (simp [az, bg, bc, posOf, nj, Cur.ren, ren, ab.mc, ae, cr]; done))
       | skip
  · have wsm := avp hwB
    obtain ⟨wk, wp, ws⟩ := akx hwB
    obtain ⟨wk1, wk2, wk3, wk4, wk5⟩ := wk
    refine rn2 @h1 @ab.mc.eq_1 ?_
    refine gy hB hc3 (by omega) 32 (by omega) rfl (fun vc5 c5 pvc5 hc5 => ?_)
    refine rn2 @Cur.ren @ae ?_
    refine ax.split (fun h3 => ?_) (fun h3 => ?_)
    · refine rn1 @h3 ?_
      refine an hB hc5 (by omega) [-1, 0, 1000001] (by simp) (by simp) rfl rfl rfl (fun vc6 c6 pvc6 hc6 => ?_)
      refine rn2 @Cur.ren @ae ?_
      have hv6 : bt vc6 := bo pvc6 (by simp [bt])
      refine l9 ⟨vc6, w.Posts, w.Shocks, w.Next, w.Archived⟩ rfl (.inl ?_) ⟨hv6, wk2, wk3, wk4, wk5⟩ (by simp only []; omega) (by simp only []; omega) (cf hc6 (by omega))
      simp [ren, bc, posOf, nj, ae, cr, ab.v]
    · refine rn1 @h3 ?_
      refine ax.split (fun h4 => ?_) (fun h4 => ?_)
      · refine rn1 @h4 ?_
        refine an hB hc5 (by omega) [0, 1, 999, 1000] (by simp) (by simp) rfl rfl rfl (fun vc6 c6 pvc6 hc6 => ?_)
        refine rn2 @Cur.ren @ae ?_
        have hv6 : bt vc6 := bo pvc6 (by simp [bt])
        refine l9 ⟨w.Now, w.Posts, w.Shocks, vc6, w.Archived⟩ rfl (.inl ?_) ⟨wk1, wk2, wk3, hv6, wk5⟩ (by simp only []; omega) (by simp only []; omega) (cf hc6 (by omega))
        simp [ren, bc, posOf, nj, ae, cr, ab.v]
      · refine rn1 @h4 ?_
        refine ax.split (fun h5 => ?_) (fun h5 => ?_)
        · refine rn1 @h5 ?_
          have p6 := oq hB (hcb hc5 (by omega)) [0, 1] (by simp) (by simp)
          have hc6 := dk (B := B) (n := (([0, 1] : List Int).length : Int)) hc5
          have m6 := l8 hB (K := [0, 1]) (by simp) hc5.1
          generalize mz B [0, 1] c5 = v6 at p6 m6
          generalize ff B (([0, 1] : List Int).length : Int) c5 = c6 at p6 hc6
          have p7 := jz hB (hcb hc6 (by omega)) 5 (by omega)
          have hc7 := dk (B := B) (n := 5) hc6
          have m7 := e9 hB (n := 5) hc6.1
          generalize iu B 5 c6 = v7 at p7 m7
          generalize ff B 5 c6 = c7 at p7 hc7
          have p8 := oq hB (hcb hc7 (by omega)) [0, 9] (by simp) (by simp)
          have hc8 := dk (B := B) (n := (([0, 9] : List Int).length : Int)) hc7
          have m8 := l8 hB (K := [0, 9]) (by simp) hc7.1
          generalize mz B [0, 9] c7 = v8 at p8 m8
          generalize ff B (([0, 9] : List Int).length : Int) c7 = c8 at p8 hc8
          have p9 := oq hB (hcb hc8 (by omega)) [0, 96] (by simp) (by simp)
          have hc9 := dk (B := B) (n := (([0, 96] : List Int).length : Int)) hc8
          have m9 := l8 hB (K := [0, 96]) (by simp) hc8.1
          generalize mz B [0, 96] c8 = v9 at p9 m9
          generalize ff B (([0, 96] : List Int).length : Int) c8 = c9 at p9 hc9
          have hx6 : sR v6 := cu m6 (by simp [sR])
          have hx : aj.ok ⟨v6, v7, v8, v9, 0⟩ := ⟨bo m6 (by simp [bt]), (show bt v7 from ⟨by omega, by omega⟩), bo m8 (by simp [bt]), bo m9 (by simp [bt]), by simp [bt]⟩
          have hsn : rows aj.cs w.Shocks ++ [.int .i64 v6, .int .i64 v7, .int .i64 v8, .int .i64 v9, .int .i64 0] = rows aj.cs (w.Shocks ++ [⟨v6, v7, v8, v9, 0⟩]) := di (cs := aj.cs) w.Shocks ⟨v6, v7, v8, v9, 0⟩
          refine clT.graph [(262143, []), (131071, [17]), (65535, [16]), (32767, [15]), (32765, [1]), (16383, [14]), (16381, [1, 14]), (8191, [13]), (8189, [1, 13]), (4095, [12]), (4093, [1, 12]), (3583, [9]), (3581, [1, 9]), (3519, [6]), (3517, [1, 6]), (3503, [4]), (3501, [1, 4]), (3495, [3]), (3493, [1, 3]), (3327, [8]), (3325, [1, 8]), (3263, [6, 8]), (3261, [1, 6, 8]), (3247, [4, 8]), (3245, [1, 4, 8]), (3239, [3, 8]), (3237, [1, 3, 8]), (2047, [11]), (2045, [1, 11]), (1535, [9, 11]), (1533, [1, 9, 11]), (1471, [6, 11]), (1469, [1, 6, 11]), (1455, [4, 11]), (1453, [1, 4, 11]), (1447, [3, 11]), (1445, [1, 3, 11]), (1279, [8, 11]), (1277, [1, 8, 11]), (1215, [6, 8, 11]), (1213, [1, 6, 8, 11]), (1199, [4, 8, 11]), (1197, [1, 4, 8, 11]), (1191, [3, 8, 11]), (1189, [1, 3, 8, 11]), (165, [10]), (37, [7]), (5, [5]), (1, [2]), (0, [0])] (gA _ (tabM B w c5 c6 c7 c8 c9 v6 v7 v8 v9)) (by kernel_rfl) rfl ?_
          refine ⟨fun s hs => ?_, fun s hs => ?_, fun s hs => ?_, fun s hs => ?_, fun s hs => ?_, fun s hs => ?_, fun s hs => ?_, fun s hs => ?_, fun s hs => ?_, fun s hs => ?_, fun s hs => ?_, fun s hs => ?_, fun s hs => ?_, fun s hs => ?_, fun s hs => ?_, fun s hs => ?_, fun s hs => ?_, fun s hs => ?_, fun s hs => ?_, fun s hs => ?_, fun s hs => ?_, fun s hs => ?_, fun s hs => ?_, fun s hs => ?_, fun s hs => ?_, fun s hs => ?_, fun s hs => ?_, fun s hs => ?_, fun s hs => ?_, fun s hs => ?_, fun s hs => ?_, fun s hs => ?_, fun s hs => ?_, fun s hs => ?_, fun s hs => ?_, fun s hs => ?_, fun s hs => ?_, fun s hs => ?_, fun s hs => ?_, fun s hs => ?_, fun s hs => ?_, fun s hs => ?_, fun s hs => ?_, fun s hs => ?_, fun s hs => ?_, fun s hs => ?_, fun s hs => ?_, fun s hs => ?_, fun s hs => ?_, fun s hs => ?_, trivial⟩
          · obtain rfl := Option.some.inj (show some _ = some s from hs)
            refine rn1 @cr ?_
            refine l9 ⟨w.Now, w.Posts, w.Shocks ++ [⟨v6, v7, v8, v9, 0⟩], w.Next, w.Archived⟩ rfl (.inl ?_) ⟨wk1, wk2, ⟨by simp only [List.length_append, List.length_cons, List.length_nil]; omega, fun y hy => ?_⟩, wk4, wk5⟩ (by simp only []; omega) (by simp only [List.length_append, List.length_cons, List.length_nil]; omega) (cf hc9 (by omega))
            · exact ap8 w ⟨v6, v7, v8, v9, 0⟩ rfl
            · rcases List.mem_append.1 hy with h | h
              · exact wk3.2 y h
              · rw [List.mem_singleton.1 h]; exact hx
          all_goals (obtain rfl := Option.some.inj (show some _ = some s from hs))
          all_goals (repeat' (first | exact trivial | refine ac0 rfl ?_ ?_))
          all_goals refine rn3 @ab.mc.eq_1 @hsn @cr ?_
          all_goals (try ((first | refine ai.df [0, 4] false p9 (by decide) ⟨leO, leO, trivial⟩ (bq rfl rfl) (bp B _ _) (.inl rfl) ?_ | refine ai.df [0, 4] false p8 (by decide) ⟨leO, leO, trivial⟩ (bq rfl rfl) (bp B _ _) (.inl rfl) ?_ | refine ai.df [0] false p7 (by decide) ⟨leO, leO, trivial⟩ (dp rfl) (ig B _ _) (.inl rfl) ?_ | refine ai.df [0, 4] false p6 (by decide) ⟨leO, leO, trivial⟩ (bq rfl rfl) (bp B _ _) (.inl rfl) ?_); refine rn5 @Cur.ren @ae @ab.mc.eq_1 @hsn @cr ?_))
          refine ⟨_, rfl, aq.pk [0, 1, 2, 3] ?_ ?_⟩
          rotate_left 2
          refine ⟨_, rfl, aq.pk [0, 1, 2, 3] ?_ ?_⟩
          rotate_left 2
          refine ⟨_, rfl, aq.pk [0, 1, 2, 3] ?_ ?_⟩
          rotate_left 2
          refine ⟨_, rfl, aq.pk [0, 1, 2, 3, 4] ?_ ?_⟩
          rotate_left 2
          refine ⟨_, rfl, aq.pk [0, 1, 2, 3, 4] ?_ ?_⟩
          rotate_left 2
          refine ⟨_, rfl, aq.pk [0, 1, 2, 3] ?_ ?_⟩
          rotate_left 2
          refine ⟨_, rfl, aq.pk [0, 1, 2, 3, 4] ?_ ?_⟩
          rotate_left 2
          refine ⟨_, rfl, aq.pk [0, 1, 2, 3] ?_ ?_⟩
          rotate_left 2
          refine ⟨_, rfl, aq.pk [0, 1, 2, 3] ?_ ?_⟩
          rotate_left 2
          refine ⟨_, rfl, aq.pk [0, 1, 2, 3] ?_ ?_⟩
          rotate_left 2
          refine ⟨_, rfl, aq.pk [0, 1, 2, 3] ?_ ?_⟩
          rotate_left 2
          refine ⟨_, rfl, aq.pk [0, 1, 2, 3, 4] ?_ ?_⟩
          rotate_left 2
          refine ⟨_, rfl, aq.pk [0, 1, 2, 3] ?_ ?_⟩
          rotate_left 2
          refine ⟨_, rfl, aq.pk [0, 1, 2, 3, 5] ?_ ?_⟩
          rotate_left 2
          refine ⟨_, rfl, aq.pk [0, 1, 2, 3, 4, 5] ?_ ?_⟩
          rotate_left 2
          refine ⟨_, rfl, aq.pk [0, 1, 2, 3, 5] ?_ ?_⟩
          rotate_left 2
          refine ⟨_, rfl, aq.pk [0, 1, 2, 3, 4, 5] ?_ ?_⟩
          rotate_left 2
          refine ⟨_, rfl, aq.pk [0, 1, 2, 3, 4, 5] ?_ ?_⟩
          rotate_left 2
          refine ⟨_, rfl, aq.pk [0, 1, 2, 3, 4, 5] ?_ ?_⟩
          rotate_left 2
          refine ⟨_, rfl, aq.pk [0, 1, 2, 3, 5, 6] ?_ ?_⟩
          rotate_left 2
          refine ⟨_, rfl, aq.pk [0, 1, 2, 3, 4, 5, 6] ?_ ?_⟩
          rotate_left 2
          refine ⟨_, rfl, aq.pk [0, 1, 2, 3, 5, 6] ?_ ?_⟩
          rotate_left 2
          refine ⟨_, rfl, aq.pk [0, 1, 2, 3, 6, 4, 5] ?_ ?_⟩
          rotate_left 2
          refine ⟨_, rfl, aq.pk [0, 1, 2, 3, 4, 5] ?_ ?_⟩
          rotate_left 2
          refine ⟨_, rfl, aq.pk [0, 1, 2, 3, 6, 4, 5] ?_ ?_⟩
          rotate_left 2
          refine ⟨_, rfl, aq.pk [0, 1, 2, 3, 5, 4] ?_ ?_⟩
          rotate_left 2
          refine ⟨_, rfl, aq.pk [0, 1, 2, 3, 4] ?_ ?_⟩
          rotate_left 2
          refine ⟨_, rfl, aq.pk [0, 1, 2, 3, 5, 4] ?_ ?_⟩
          rotate_left 2
          refine ⟨_, rfl, aq.pk [0, 1, 2, 3, 4] ?_ ?_⟩
          rotate_left 2
          refine ⟨_, rfl, aq.pk [0, 1, 2, 3, 5, 4] ?_ ?_⟩
          rotate_left 2
          refine ⟨_, rfl, aq.pk [0, 1, 2, 3, 4] ?_ ?_⟩
          rotate_left 2
          refine ⟨_, rfl, aq.pk [0, 1, 2, 3, 4] ?_ ?_⟩
          rotate_left 2
          refine ⟨_, rfl, aq.pk [0, 1, 2, 3, 5, 4] ?_ ?_⟩
          rotate_left 2
          refine ⟨_, rfl, aq.pk [0, 1, 2, 3, 5] ?_ ?_⟩
          rotate_left 2
          refine ⟨_, rfl, aq.pk [0, 1, 2, 3, 4, 6, 5] ?_ ?_⟩
          rotate_left 2
          refine ⟨_, rfl, aq.pk [0, 1, 2, 3, 4, 5] ?_ ?_⟩
          rotate_left 2
          refine ⟨_, rfl, aq.pk [0, 1, 2, 3, 5] ?_ ?_⟩
          rotate_left 2
          refine ⟨_, rfl, aq.pk [0, 1, 2, 3, 4, 6, 5] ?_ ?_⟩
          rotate_left 2
          refine ⟨_, rfl, aq.pk [0, 1, 2, 3, 5, 4] ?_ ?_⟩
          rotate_left 2
          refine ⟨_, rfl, aq.pk [0, 1, 2, 3, 5, 4] ?_ ?_⟩
          rotate_left 2
          refine ⟨_, rfl, aq.pk [0, 1, 2, 3, 4] ?_ ?_⟩
          rotate_left 2
          refine ⟨_, rfl, aq.pk [0, 1, 2, 3, 5, 4] ?_ ?_⟩
          rotate_left 2
          refine ⟨_, rfl, aq.pk [0, 1, 2, 3, 5, 4] ?_ ?_⟩
          rotate_left 2
          refine ⟨_, rfl, aq.pk [0, 1, 2, 3, 4] ?_ ?_⟩
          rotate_left 2
          refine ⟨_, rfl, aq.pk [0, 1, 2, 3] ?_ ?_⟩
          rotate_left 2
          refine ⟨_, rfl, aq.pk [0, 1, 2, 3, 4] ?_ ?_⟩
          rotate_left 2
          refine ⟨_, rfl, aq.pk [0, 1, 2, 3] ?_ ?_⟩
          rotate_left 2
          refine ⟨_, rfl, aq.pk [0, 1, 2, 3, 4, 5] ?_ ?_⟩
          rotate_left 2
          refine ⟨_, rfl, aq.pk [0, 1, 2, 3, 4] ?_ ?_⟩
          rotate_left 2
          refine ⟨_, rfl, aq.pk [0, 1, 2, 3] ?_ ?_⟩
          rotate_left 2
          refine ⟨_, rfl, aq.pk [0, 1, 2, 3, 4, 5] ?_ ?_⟩
          rotate_left 2
          refine ⟨_, rfl, aq.pk [0, 1, 2, 3, 4] ?_ ?_⟩
          rotate_left 2
          refine ⟨_, rfl, aq.pk [0, 1, 2, 3, 4, 5] ?_ ?_⟩
          rotate_left 2
          refine ⟨_, rfl, aq.pk [0, 1, 2, 3, 4] ?_ ?_⟩
          rotate_left 2
          refine ⟨_, rfl, aq.pk [0, 1, 2, 3, 4] ?_ ?_⟩
          rotate_left 2
          refine ⟨_, rfl, aq.pk [0, 1, 2, 3, 4, 5] ?_ ?_⟩
          rotate_left 2
          refine ⟨_, rfl, aq.pk [0, 1, 2, 3, 5] ?_ ?_⟩
          rotate_left 2
          refine ⟨_, rfl, aq.pk [0, 1, 2, 3, 4, 5, 6] ?_ ?_⟩
          rotate_left 2
          refine ⟨_, rfl, aq.pk [0, 1, 2, 3, 4, 5] ?_ ?_⟩
          rotate_left 2
          refine ⟨_, rfl, aq.pk [0, 1, 2, 3, 5] ?_ ?_⟩
          rotate_left 2
          refine ⟨_, rfl, aq.pk [0, 1, 2, 3, 4, 5, 6] ?_ ?_⟩
          rotate_left 2
          refine ⟨_, rfl, aq.pk [0, 1, 2, 3, 5, 4] ?_ ?_⟩
          rotate_left 2
          refine ⟨_, rfl, aq.pk [0, 1, 2, 3, 4, 5] ?_ ?_⟩
          rotate_left 2
          refine ⟨_, rfl, aq.pk [0, 1, 2, 3, 4] ?_ ?_⟩
          rotate_left 2
          refine ⟨_, rfl, aq.pk [0, 1, 2, 3, 5, 4] ?_ ?_⟩
          rotate_left 2
          refine ⟨_, rfl, aq.pk [0, 1, 2, 3, 4, 5] ?_ ?_⟩
          rotate_left 2
          refine ⟨_, rfl, aq.pk [0, 1, 2, 3, 4] ?_ ?_⟩
          rotate_left 2
          refine ⟨_, rfl, aq.pk [0, 1, 2, 3, 4] ?_ ?_⟩
          rotate_left 2
          refine ⟨_, rfl, aq.pk [0, 1, 2, 3] ?_ ?_⟩
          rotate_left 2
          refine ⟨_, rfl, aq.pk [0, 1, 2, 3, 4] ?_ ?_⟩
          rotate_left 2
          refine ⟨_, rfl, aq.pk [0, 1, 2, 3, 4] ?_ ?_⟩
          rotate_left 2
          refine ⟨_, rfl, aq.pk [0, 1, 2, 3] ?_ ?_⟩
          rotate_left 2
          refine ⟨_, rfl, aq.pk [0, 1, 2, 3, 4] ?_ ?_⟩
          rotate_left 2
          refine ⟨_, rfl, aq.pk [0, 1, 2, 3, 4] ?_ ?_⟩
          rotate_left 2
          refine ⟨_, rfl, aq.pk [0, 1, 2, 3] ?_ ?_⟩
          rotate_left 2
          refine ⟨_, rfl, aq.pk [0, 1, 2, 3] ?_ ?_⟩
          rotate_left 2
          refine ⟨_, rfl, aq.pk [0, 1, 2, 3, 4] ?_ ?_⟩
          rotate_left 2
          refine ⟨_, rfl, aq.pk [0, 1, 2, 3, 4] ?_ ?_⟩
          rotate_left 2
          refine ⟨_, rfl, aq.pk [0, 1, 2, 3] ?_ ?_⟩
          rotate_left 2
          refine ⟨_, rfl, aq.pk [0, 1, 2, 3, 4, 5] ?_ ?_⟩
          rotate_left 2
          refine ⟨_, rfl, aq.pk [0, 1, 2, 3, 4, 5] ?_ ?_⟩
          rotate_left 2
          refine ⟨_, rfl, aq.pk [0, 1, 2, 3, 4] ?_ ?_⟩
          rotate_left 2
          refine ⟨_, rfl, aq.pk [0, 1, 2, 3] ?_ ?_⟩
          rotate_left 2
          refine ⟨_, rfl, aq.pk [0, 1, 2, 3, 4, 5] ?_ ?_⟩
          rotate_left 2
          refine ⟨_, rfl, aq.pk [0, 1, 2, 3, 4, 5] ?_ ?_⟩
          rotate_left 2
          refine ⟨_, rfl, aq.pk [0, 1, 2, 3, 4] ?_ ?_⟩
          rotate_left 2
          refine ⟨_, rfl, aq.pk [0, 1, 2, 3, 4] ?_ ?_⟩
          rotate_left 2
          refine ⟨_, rfl, aq.pk [0, 1, 2, 3, 4] ?_ ?_⟩
          rotate_left 2
          refine ⟨_, rfl, aq.pk [0, 1, 2, 3] ?_ ?_⟩
          rotate_left 2
          refine ⟨_, rfl, aq.pk [0, 1, 2, 3, 4] ?_ ?_⟩
          rotate_left 2
          refine ⟨_, rfl, aq.pk [0, 1, 2, 3, 4] ?_ ?_⟩
          rotate_left 2
          refine ⟨_, rfl, aq.pk [0, 1, 2, 3, 4] ?_ ?_⟩
          rotate_left 2
          refine ⟨_, rfl, aq.pk [0, 1, 2, 3] ?_ ?_⟩
          rotate_left 2
          refine ⟨_, rfl, aq.pk [0, 1, 2, 3] ?_ ?_⟩
          rotate_left 2
          refine ⟨_, rfl, aq.pk [0, 1, 2, 3] ?_ ?_⟩
          rotate_left 2
          refine ⟨_, rfl, aq.pk [0, 1, 2, 3] ?_ ?_⟩
          rotate_left 2
          refine ⟨_, rfl, aq.pk [0, 1, 2, 3] ?_ ?_⟩
          rotate_left 2
          all_goals (first | rfl | (simp [LeG, LeC, LeV, ren, bc, posOf, ab.mc, hsn, cr]; done) | (simp [az, bg, bc, posOf, Cur.ren, ren, ae, rows, IntS.cs, ab.mc, hsn, cr]; done) | (simp [az, bg, bc, posOf, Cur.ren, ren, ae, ab.mc, hsn, cr]; done) | (simp [az, bg, bc, posOf, Cur.ren, ren, ae, ab.mc, hsn, cr] <;> rfl))
        · refine rn1 @h5 ?_
          refine l9 w rfl (.inl ?_) ⟨wk1, wk2, wk3, wk4, wk5⟩ (by omega) (by omega) (cf hc5 (by omega))
          simp [ren, bc, posOf, nj, ae, cr, ab.v]
end Go.Proofs
end
section
namespace Go.Lv

def num (n : Int) : ByteArray := ⟨(Lib.itoa n).toArray⟩
theorem aaa {n : Int} (h : bt n) : (num n).size ≤ 21 := by
 have := Lib.itoa_length_le n h.1 h.2
 simpa [num, ByteArray.size] using this
theorem dz {n : Int} (h0 : -9223372036854775808 ≤ n) (h1 : n ≤ 9223372036854775807) : (num n).size ≤ 21 := aaa ⟨h0, h1⟩
theorem cb (l : Array UInt8) : (ByteArray.mk l).size = l.size := rfl
theorem arj (x y : Array UInt8) : (ByteArray.mk x ++ ByteArray.mk y) = ByteArray.mk (x ++ y) := by
 apply ByteArray.ext
 simp
def digits : ByteArray := ⟨#[48, 49, 50, 51, 52, 53, 54, 55, 56, 57]⟩
theorem tq (d : Nat) (h : d < 10) : digits.extract d (d + 1) = ⟨#[UInt8.ofNat (48 + d)]⟩ := by
 apply ByteArray.ext
 rw [ByteArray.data_extract]
 match d, h with
 | 0, _ => decide
 | 1, _ => decide
 | 2, _ => decide
 | 3, _ => decide
 | 4, _ => decide
 | 5, _ => decide
 | 6, _ => decide
 | 7, _ => decide
 | 8, _ => decide
 | 9, _ => decide
theorem qk (u : Nat) : Lib.itoa (u : Int) = Lib.decDigits u := by unfold Lib.itoa; rw [if_neg (by omega)]; simp
theorem ata {u : Nat} (h : 1 ≤ u) : num (-(u : Int)) = ⟨#[45]⟩ ++ num u := by
 have e : Lib.itoa (-(u : Int)) = 45 :: Lib.decDigits u := by unfold Lib.itoa; rw [if_pos (by omega)]; simp
 unfold num
 rw [e, qk, arj]
 simp
theorem ag3 {u : Nat} (h : u < 10) : num u = digits.extract u (u + 1) := by
 rw [tq u h]
 unfold num
 rw [qk, Lib.decDigits, dif_pos h]
theorem ac4 {u : Nat} (h : ¬ u < 10) : num u = num ((u / 10 : Nat) : Int) ++ digits.extract (u % 10) (u % 10 + 1) := by
 rw [tq (u % 10) (by omega)]
 unfold num
 rw [qk, qk, Lib.decDigits, dif_neg h, arj]
 simp

theorem rs0 {p q : Prop} (h : q) (hq : Wr q → p := by intro h; (repeat ((repeat1' (first | simp -implicitDefEqProofs -dsimp only [go_sem] | simp -dsimp (disch := omega) only [wrap_i64])); repeat (with_reducible refine And.intro ?_ ?_; focus (first | omega | with_reducible rfl | (show cc _ = true; kernel_rfl) | (simp only [bb, bh, List.length_append, List.length_cons, List.length_nil, List.all_append, List.all_cons, List.all_nil, cn, Nat.mul_one, Nat.one_mul, Bool.and_self]; first | done | omega) | (simp only [ByteArray.size_append, cb, List.size_toArray, List.length_cons, List.length_nil]; omega))))); exact h.o) : p := hq ⟨h⟩
theorem rs1 {a1 p q : Prop} (h1 : a1) (h : q) (hq : a1 → Wr q → p := by intro h1 h; (repeat ((repeat1' (first | simp -implicitDefEqProofs -dsimp only [go_sem, h1] | simp -dsimp (disch := omega) only [wrap_i64])); repeat (with_reducible refine And.intro ?_ ?_; focus (first | omega | with_reducible rfl | (show cc _ = true; kernel_rfl) | (simp only [bb, bh, List.length_append, List.length_cons, List.length_nil, List.all_append, List.all_cons, List.all_nil, cn, Nat.mul_one, Nat.one_mul, Bool.and_self]; first | done | omega) | (simp only [ByteArray.size_append, cb, List.size_toArray, List.length_cons, List.length_nil]; omega))))); exact h.o) : p := hq h1 ⟨h⟩
theorem rs2 {a1 a2 p q : Prop} (h1 : a1) (h2 : a2) (h : q) (hq : a1 → a2 → Wr q → p := by intro h1 h2 h; (repeat ((repeat1' (first | simp -implicitDefEqProofs -dsimp only [go_sem, h1, h2] | simp -dsimp (disch := omega) only [wrap_i64])); repeat (with_reducible refine And.intro ?_ ?_; focus (first | omega | with_reducible rfl | (show cc _ = true; kernel_rfl) | (simp only [bb, bh, List.length_append, List.length_cons, List.length_nil, List.all_append, List.all_cons, List.all_nil, cn, Nat.mul_one, Nat.one_mul, Bool.and_self]; first | done | omega) | (simp only [ByteArray.size_append, cb, List.size_toArray, List.length_cons, List.length_nil]; omega))))); exact h.o) : p := hq h1 h2 ⟨h⟩
theorem rs3 {a1 a2 a3 p q : Prop} (h1 : a1) (h2 : a2) (h3 : a3) (h : q) (hq : a1 → a2 → a3 → Wr q → p := by intro h1 h2 h3 h; (repeat ((repeat1' (first | simp -implicitDefEqProofs -dsimp only [go_sem, h1, h2, h3] | simp -dsimp (disch := omega) only [wrap_i64])); repeat (with_reducible refine And.intro ?_ ?_; focus (first | omega | with_reducible rfl | (show cc _ = true; kernel_rfl) | (simp only [bb, bh, List.length_append, List.length_cons, List.length_nil, List.all_append, List.all_cons, List.all_nil, cn, Nat.mul_one, Nat.one_mul, Bool.and_self]; first | done | omega) | (simp only [ByteArray.size_append, cb, List.size_toArray, List.length_cons, List.length_nil]; omega))))); exact h.o) : p := hq h1 h2 h3 ⟨h⟩
theorem rs4 {a1 a2 a3 a4 p q : Prop} (h1 : a1) (h2 : a2) (h3 : a3) (h4 : a4) (h : q) (hq : a1 → a2 → a3 → a4 → Wr q → p := by intro h1 h2 h3 h4 h; (repeat ((repeat1' (first | simp -implicitDefEqProofs -dsimp only [go_sem, h1, h2, h3, h4] | simp -dsimp (disch := omega) only [wrap_i64])); repeat (with_reducible refine And.intro ?_ ?_; focus (first | omega | with_reducible rfl | (show cc _ = true; kernel_rfl) | (simp only [bb, bh, List.length_append, List.length_cons, List.length_nil, List.all_append, List.all_cons, List.all_nil, cn, Nat.mul_one, Nat.one_mul, Bool.and_self]; first | done | omega) | (simp only [ByteArray.size_append, cb, List.size_toArray, List.length_cons, List.length_nil]; omega))))); exact h.o) : p := hq h1 h2 h3 h4 ⟨h⟩
theorem rs5 {a1 a2 a3 a4 a5 p q : Prop} (h1 : a1) (h2 : a2) (h3 : a3) (h4 : a4) (h5 : a5) (h : q) (hq : a1 → a2 → a3 → a4 → a5 → Wr q → p := by intro h1 h2 h3 h4 h5 h; (repeat ((repeat1' (first | simp -implicitDefEqProofs -dsimp only [go_sem, h1, h2, h3, h4, h5] | simp -dsimp (disch := omega) only [wrap_i64])); repeat (with_reducible refine And.intro ?_ ?_; focus (first | omega | with_reducible rfl | (show cc _ = true; kernel_rfl) | (simp only [bb, bh, List.length_append, List.length_cons, List.length_nil, List.all_append, List.all_cons, List.all_nil, cn, Nat.mul_one, Nat.one_mul, Bool.and_self]; first | done | omega) | (simp only [ByteArray.size_append, cb, List.size_toArray, List.length_cons, List.length_nil]; omega))))); exact h.o) : p := hq h1 h2 h3 h4 h5 ⟨h⟩
theorem rs8 {a1 a2 a3 a4 a5 a6 a7 a8 p q : Prop} (h1 : a1) (h2 : a2) (h3 : a3) (h4 : a4) (h5 : a5) (h6 : a6) (h7 : a7) (h8 : a8) (h : q) (hq : a1 → a2 → a3 → a4 → a5 → a6 → a7 → a8 → Wr q → p := by intro h1 h2 h3 h4 h5 h6 h7 h8 h; (repeat ((repeat1' (first | simp -implicitDefEqProofs -dsimp only [go_sem, h1, h2, h3, h4, h5, h6, h7, h8] | simp -dsimp (disch := omega) only [wrap_i64])); repeat (with_reducible refine And.intro ?_ ?_; focus (first | omega | with_reducible rfl | (show cc _ = true; kernel_rfl) | (simp only [bb, bh, List.length_append, List.length_cons, List.length_nil, List.all_append, List.all_cons, List.all_nil, cn, Nat.mul_one, Nat.one_mul, Bool.and_self]; first | done | omega) | (simp only [ByteArray.size_append, cb, List.size_toArray, List.length_cons, List.length_nil]; omega))))); exact h.o) : p := hq h1 h2 h3 h4 h5 h6 h7 h8 ⟨h⟩
theorem rs9 {a1 a2 a3 a4 a5 a6 a7 a8 a9 p q : Prop} (h1 : a1) (h2 : a2) (h3 : a3) (h4 : a4) (h5 : a5) (h6 : a6) (h7 : a7) (h8 : a8) (h9 : a9) (h : q) (hq : a1 → a2 → a3 → a4 → a5 → a6 → a7 → a8 → a9 → Wr q → p := by intro h1 h2 h3 h4 h5 h6 h7 h8 h9 h; (repeat ((repeat1' (first | simp -implicitDefEqProofs -dsimp only [go_sem, h1, h2, h3, h4, h5, h6, h7, h8, h9] | simp -dsimp (disch := omega) only [wrap_i64])); repeat (with_reducible refine And.intro ?_ ?_; focus (first | omega | with_reducible rfl | (show cc _ = true; kernel_rfl) | (simp only [bb, bh, List.length_append, List.length_cons, List.length_nil, List.all_append, List.all_cons, List.all_nil, cn, Nat.mul_one, Nat.one_mul, Bool.and_self]; first | done | omega) | (simp only [ByteArray.size_append, cb, List.size_toArray, List.length_cons, List.length_nil]; omega))))); exact h.o) : p := hq h1 h2 h3 h4 h5 h6 h7 h8 h9 ⟨h⟩
end Go.Lv
end
section
set_option maxRecDepth 100000
set_option maxHeartbeats 2000000
namespace Go.Proofs
open Go.Lv
theorem fp {c : Cur} {a b : Int} (h : c.le a) (hab : a ≤ b) : c.le b := ⟨h.1, Int.le_trans h.2 hab⟩
def ap7 (B : List Int) (b : Nat) (k : Int) (r : V) (hout : Hp) : Prop := ∃ (s : ByteArray) (c : Cur), s.size ≤ b ∧ c.le k ∧ r = .str s ∧ hout = [some (c.cs B)]
theorem po {B : List Int} {b : Nat} {k : Int} {h : Hp} {x : ByteArray} {c : Cur} (h0 : h[0]? = some (some (c.cs B))) (hx : x.size ≤ b) (hc : c.le k) : x9 1 (.str x) h (ap7 B b k) := by
 refine ⟨_, _, ⟨x, c, hx, hc, rfl, rfl⟩, ak.pick [0] (by decide) (fun j hj => by cases j <;> simp_all) (.inl rfl) ?_⟩
 simp only [az, List.map_cons, List.map_nil, bg, h0, Cur.ren]
theorem aot {B : List Int} (hB : CB B) {k : Int} (hk : k ≤ 1000000) {c : Cur} (hc : c.le k) (t w : ByteArray) (ht : t.size ≤ 1000000) (hw : 1 ≤ w.size ∧ w.size ≤ 100) : ml Tryz.prog 32 [.ptr 0 0, .str t, .str w] [some (c.cs B)] (ap7 B (t.size + 1) (k + 20)) := by
 have hcb : ∀ {c' : Cur} {k' : Int}, c'.le k' → k' ≤ 4000000 → c'.le 4611686018427387903 := fun h h' => ⟨h.1, by have := h.2; omega⟩
 refine ml.intro Tryz.mixed Tryz.func32 rfl Tryz.a4f ?_
 refine ev2 @Tryz.ntmps32 @Tryz.results32 ?_
 refine rs0 ?_
 refine ax.split (fun h1 => ?_) (fun h1 => ?_)
 · refine rs1 @h1 ?_
   exact po rfl (by rw [ByteArray.size_extract]; omega) (fp hc (by omega))
 · refine rs1 @h1 ?_
   have ht0 : 0 < t.size := by
    rcases Nat.eq_zero_or_pos t.size with h | h
    · have : t = ByteArray.empty := by
       apply ByteArray.ext
       exact Array.eq_empty_of_size_eq_zero h
      subst this
      simp at h1
    · exact h
   refine gy hB hc (by omega) (t.size : Int) (by omega) rfl (fun vc1 c1 pvc1 hc1 => ?_)
   refine rs1 @Cur.ren ?_
   refine gy hB hc1 (by omega) (w.size : Int) (by omega) rfl (fun vc2 c2 pvc2 hc2 => ?_)
   refine rs1 @Cur.ren ?_
   obtain ⟨i, hi⟩ : ∃ i : Nat, vc1 = i := ⟨vc1.toNat, by omega⟩
   obtain ⟨j, hj⟩ : ∃ j : Nat, vc2 = j := ⟨vc2.toNat, by omega⟩
   subst hi hj
   have hx0 : (w.extract j w.size).size = w.size - j := by rw [ByteArray.size_extract]; omega
   have hx1 : ((w.extract j w.size).extract 0 1).size = 1 := by rw [ByteArray.size_extract, hx0]; omega
   simp only [Int.toNat_natCast]
   refine ⟨by omega, ?_⟩
   generalize (w.extract j w.size).extract 0 1 = x at hx1 ⊢
   refine gy hB hc2 (by omega) 3 (by omega) rfl (fun vc3 c3 pvc3 hc3 => ?_)
   have hi1 : IntKind.i64.wrap ((i : Int) + 1) = ((i + 1 : Nat) : Int) := by rw [wrap_i64 (by omega) (by omega)]; omega
   have e1 : (t.extract 0 i).size = i := by rw [ByteArray.size_extract]; omega
   have e2 : (t.extract i t.size).size = t.size - i := by rw [ByteArray.size_extract]; omega
   have e3 : (t.extract (i + 1) t.size).size = t.size - (i + 1) := by rw [ByteArray.size_extract]; omega
   refine rs1 @Cur.ren ?_
   refine ax.split (fun h2 => ?_) (fun h2 => ?_)
   · refine rs3 @h2 @hi1 @Int.toNat_natCast ?_
     exact po rfl (by simp only [ByteArray.size_append]; omega) (fp hc3 (by omega))
   · refine rs1 @h2 ?_
     refine ax.split (fun h3 => ?_) (fun h3 => ?_)
     · refine rs3 @h3 @hi1 @Int.toNat_natCast ?_
       exact po rfl (by simp only [ByteArray.size_append]; omega) (fp hc3 (by omega))
     · refine rs3 @h3 @hi1 @Int.toNat_natCast ?_
       exact po rfl (by simp only [ByteArray.size_append]; omega) (fp hc3 (by omega))
end Go.Proofs
end
section
set_option maxRecDepth 100000
namespace Go.Proofs
open Go.Lv
def StringS.cs (x : ByteArray) : List V := [.str x]
instance : ri StringS.cs 1 := ⟨fun _ => rfl, fun _ d => by cases d <;> rfl, fun _ => rfl, fun _ => rfl⟩
theorem StringS.csl (a : ByteArray) : (StringS.cs a).length = 1 := rfl
abbrev StringS.ok (x : ByteArray) : Prop := apy x
abbrev StringS.sl (L : List ByteArray) : V := .sl L.length 1 (Go.Lv.rows StringS.cs L)
abbrev StringS.zs : List V := [.str ByteArray.empty]
abbrev StringS.v (x : ByteArray) : V := .str x
end Go.Proofs
end
section
set_option maxRecDepth 100000
set_option maxHeartbeats 2000000
namespace Go.Proofs
open Go.Lv
def ofV (B : List Int) (K : List ByteArray) (c : Cur) : ByteArray := K.getD (iu B K.length c).toNat ByteArray.empty
theorem xa {B : List Int} (hB : CB B) {K : List ByteArray} (hK : 0 < K.length) {c : Cur} (h : 0 ≤ c.a) : ofV B K c ∈ K := by
 obtain ⟨h1, h2⟩ := e9 hB (n := K.length) h
 have hi : (iu B K.length c).toNat < K.length := by omega
 simp [ofV, List.getD, hi]
theorem af3 {B : List Int} (hB : CB B) {c : Cur} (hc : c.le 4611686018427387903) (K : List ByteArray) (hK0 : 0 < K.length) (hK : K.length ≤ 1000000000) : Ctr Tryz.prog 64 [.ptr 0 0, .osl 1 0 K.length 1] [some (c.cs B), some (rows StringS.cs K)] (.str (ofV B K c)) [some ((ff B K.length c).cs B), some (rows StringS.cs K)] := by
 obtain ⟨h1, h2⟩ := e9 hB (n := K.length) hc.1
 obtain ⟨i, hi'⟩ : ∃ i : Nat, iu B K.length c = i := ⟨(iu B K.length c).toNat, by omega⟩
 have hi : i < K.length := by omega
 have hr := bw StringS.csl hi
 have e : ofV B K c = K[i] := by simp [ofV, hi', List.getD, hi]
 have hp := jz hB hc K.length (by omega)
 rw [hi'] at hp
 rw [e]
 refine Ctr.intro Tryz.mixed Tryz.func64 rfl Tryz.a6g ?_
 refine ev2 @Tryz.ntmps64 @Tryz.results64 ?_
 refine rn0 ?_
 refine ai.df [0] false hp (by decide) ⟨leO, leO, trivial⟩ (dp rfl) (ig B _ _) (.inl rfl) ?_
 refine rn3 @Cur.ren @hr @StringS.cs.eq_1 ?_
 exact ak.refl _ _ _
theorem vy {K : List ByteArray} {v : ByteArray} (h : v ∈ K) (hk : K.all (fun x => decide (x.size ≤ 100)) = true) : v.size ≤ 100 := by
 have := List.all_eq_true.1 hk v h
 simpa using this
end Go.Proofs
end
