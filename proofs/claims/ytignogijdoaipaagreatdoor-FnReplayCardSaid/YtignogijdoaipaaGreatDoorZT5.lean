/-
  A part of the proof: texts put together by a program of the prover. Conditions: none.
-/
import Derived.Test.YtignogijdoaipaaGreatDoorZT4
import Derived.Shelf.RegionOpenPlain
import Derived.WalkKit
import Derived.Deep.LoopGhost
import Derived.Deep.RegionLaw
import Derived.Lib.Walk
import Derived.Sort.WalkB12
import Derived.Lib.SliceRun
import Derived.Deep.Upon
import Derived.Deep.MidRow
import Derived.Laws.IdiomCopy
import Derived.Lib.Hide
import Derived.Lib.ItoaNum
import Derived.Lib.ItoaLen
set_option linter.unusedSimpArgs false
set_option linter.unusedVariables false
section
set_option maxRecDepth 100000
set_option maxHeartbeats 4000000
namespace Go.Proofs
open Go.Lv
open Go.Shelf Go.RowKit Go.Lib Go.Sort
def we (C : Array Value) : Nat → List Value → Array Value
 | _, [] => C
 | o, v :: r => we (C.setIfInBounds o v) (o + 1) r
theorem qm : ∀ (vs : List Value) (C : Array Value) (o : Nat), (we C o vs).size = C.size
 | [], _, _ => rfl
 | v :: r, C, o => by rw [we, qm r]; simp
theorem w8 : ∀ (vs : List Value) (C : Array Value) (o k : Nat), (k < o ∨ o + vs.length ≤ k) → (we C o vs).getD k Go.undef = C.getD k Go.undef
 | [], _, _, _, _ => rfl
 | v :: r, C, o, k, hk => by
  simp only [List.length_cons] at hk
  rw [we, w8 r _ _ _ (by omega), Array.getD_eq_getD_getElem?, Array.getD_eq_getD_getElem?, Array.getElem?_setIfInBounds_ne (by omega)]
theorem aik : ∀ (vs : List Value) (C : Array Value) (o j : Nat) (hj : j < vs.length), o + vs.length ≤ C.size → (we C o vs).getD (o + j) Go.undef = vs[j]
 | v :: r, C, o, 0, _, h => by
  simp only [List.length_cons] at h
  rw [we, w8 r _ _ _ (by omega), Array.getD_eq_getD_getElem?, Nat.add_zero, Array.getElem?_setIfInBounds_self_of_lt (by omega)]
  rfl
 | v :: r, C, o, j + 1, hj, h => by
  simp only [List.length_cons] at h
  have := aik r (C.setIfInBounds o v) (o + 1) j (by simpa using hj) (by simp; omega)
  rw [we, show o + (j + 1) = o + 1 + j by omega, this]
  rfl
theorem vf (b : Nat) : ∀ (vs : List Value) (o : Nat) (w : World) (C : Array Value) (T : TypeId) (fr : Nat × Nat), w.heap[b]? = some (.cells C T fr) → w.setCells b o vs = w.setRow b (we C o vs)
 | [], _, w, C, T, fr, hb => (setRow_self w b C T fr hb).symm
 | v :: r, o, w, C, T, fr, hb => by
  rw [World.setCells, setCell_eq_setRow w b o C T fr v hb, vf b r (o + 1) _ _ T fr (setRow_heap w b C _ T fr hb), setRow_setRow]
  rfl
theorem af5 {P : Program} (w : World) (t e ty : TypeId) (z : Value) (ht : P.underlying t = some (.slice e)) (hv : ∀ w, (zeroValue e).run P w = .ok z w) (h1 : ∀ u ∈ z.cells.toList, u.oneCell' = true) (b o c : Nat)
 (hc : ∀ j, j < z.cells.size → (w.cell? ⟨b, o + j, none⟩).isSome = true) (hf : ∀ j, j < z.cells.size → w.frozen? ⟨b, o + j, none⟩ = false) :
 (Builtin.clear_ #[t] ty #[.slice (some ⟨b, o, none⟩) 1 c]).run P w = .ok (.tuple #[]) (w.setCells b o z.cells.toList) := by
 have hzc : (Builtin.zeroCells z.cells 1).toList = z.cells.toList := by
  simp [Builtin.zeroCells]
  apply List.ext_getElem
  · simp
  · intro i h1 h2
    simp at h1
    simp [Nat.mod_eq_of_lt h1, h1]
 have hst := run_storeCells_cells (P := P) b o z.cells.toList 0 w (by simpa using hc) (by simpa using hf) (by intro v hv'; exact h1 v hv')
 simp only [Nat.add_zero] at hst
 simp [Builtin.clear_, run_underlying ht, hv, hzc, hst]
def fw : Value := .agg #[.int .i64 0, .int .i64 0, .int .i64 0, .int .i64 0, .int .i64 0]
theorem ai5 (b n cap i : Nat) (C : Array Value) (T : TypeId) (w : World) {fr : Nat × Nat} (hb : w.heap[b]? = some (.cells C T fr)) (hfr : aa2 fr C.size) (hC : cap * 5 ≤ C.size) (hn : n ≤ cap) (hi : i < n) (news : List Value) (hnl : news.length = (n - (i + 1)) * 5)
 (hng : ∀ t, t < (n - (i + 1)) * 5 → news[t]? = some (C.getD ((i + 1) * 5 + t) Go.undef)) (h1 : ∀ u ∈ news, u.oneCell' = true) :
 Calls Tryz.prog 197 #[.slice (some ⟨b, 0, none⟩) n cap, .int .i64 i, .int .i64 ((i : Int) + 1)] w fun e w' =>
  e = .returned (.slice (some ⟨b, 0, none⟩) (n - 1) cap) ∧ w' = ((w.drew).setCells b (i * 5) news).setCells b ((n - 1) * 5) fw.cells.toList := by
 have he : jo Tryz.prog 25 = some (80, 5, 40) := by kernel_rfl
 obtain ⟨i0, t81, hi0, hz5, _⟩ := je he
 have hzv : ∀ w, (zeroValue 80).run Tryz.prog w = .ok fw w := by
  have hz : (Tryz.prog.info? 80).bind (·.zero) = some fw := by kernel_rfl
  intro w
  rw [hi0] at hz
  simp only [Option.bind_some] at hz
  simp [zeroValue, typeInfo, hi0, hz]
 have hcell : ∀ k, k < C.size → w.cell? ⟨b, k, none⟩ = some (C.getD k Go.undef) := fun k hk => by simp [World.cell?, hb, Array.getD, hk]
 have hfrz : ∀ (k : Nat), k < C.size → w.frozen? ⟨b, k, none⟩ = false := fun k hk => hfr.not hb hk
 obtain ⟨A, hA, hsrc⟩ : ∃ A : Addr, (if cap = i + 1 then some (⟨b, 0, none⟩ : Addr) else some ⟨b, (i + 1) * 5, none⟩) = some A ∧ Hid (∀ t u, news[t]? = some u → w.drew.cell? (A.add t) = some u) := by
  by_cases h : cap = i + 1
  · refine ⟨⟨b, 0, none⟩, by simp [h], fun t u hu => ?_⟩
    have h0 : news.length = 0 := by rw [hnl]; omega
    rw [List.length_eq_zero_iff.1 h0] at hu
    simp at hu
  · refine ⟨⟨b, (i + 1) * 5, none⟩, by simp [h], fun t u hu => ?_⟩
    have ht : t < (n - (i + 1)) * 5 := by
     have := (List.getElem?_eq_some_iff.1 hu).1
     rwa [hnl] at this
    rw [hng t ht] at hu
    rw [Addr.add_lit]
    exact (hcell ((i + 1) * 5 + t) (by omega)).trans hu
 have s1 : Hid (news.length = (n - (i + 1)) * 5) := hnl
 have s2 : Hid (∀ u ∈ news, u.oneCell' = true) := h1
 have s3 : Hid (∀ t, t < news.length → (w.drew.cell? ⟨b, 0 + i * 5 + t, none⟩).isSome = true ∧ w.drew.frozen? ⟨b, 0 + i * 5 + t, none⟩ = false) := by
  intro t ht
  rw [hnl] at ht
  exact ⟨by show (w.cell? _).isSome = true; rw [hcell _ (by omega)]; rfl, hfrz _ (by omega)⟩
 obtain ⟨W1, hW1⟩ : ∃ W1, W1 = w.drew.setCells b (i * 5) news := ⟨_, rfl⟩
 have hsome : ∀ k, k < C.size → (W1.cell? ⟨b, k, none⟩).isSome = true := fun k hk => by
  rw [hW1]
  exact World.isSome_setCells b news _ w.drew _ (by show (w.cell? _).isSome = true; rw [hcell k hk]; rfl)
 have hcl : ∀ ty, (Builtin.clear_ #[25] ty #[.slice (some ⟨b, (i + (n - (i + 1))) * 5, none⟩) (n - (i + (n - (i + 1)))) (cap - (i + (n - (i + 1))))]).run Tryz.prog W1 = .ok (.tuple #[]) (W1.setCells b ((i + (n - (i + 1))) * 5) fw.cells.toList) := by
  intro ty
  have e1 : n - (i + (n - (i + 1))) = 1 := by omega
  rw [e1]
  refine af5 W1 _ _ ty fw t81 hzv (by decide) b _ _ (fun j hj => hsome _ ?_) (fun j hj => ?_)
  · have : j < 5 := hj
    omega
  · rw [hW1, World.frozen?_setCells]
    have : j < 5 := hj
    exact hfrz _ (by omega)
 obtain ⟨zc, hzc⟩ : ∃ zc, zc = fw.cells.toList := ⟨_, rfl⟩
 rw [← hzc] at hcl
 have Z : Aside (zc = fw.cells.toList) := hzc
 have X : Aside (W1 = w.drew.setCells b (i * 5) news) := hW1
 have hW : Hid (W1 = w.drew.setCells b (0 + i * 5) news) := by rw [Nat.zero_add]; exact hW1
 have hic : i ≤ cap := by omega
 have hjc : i + 1 ≤ cap := by omega
 have hz5' : Hid (i0.size = 5) := hz5
 have mixed := Tryz.mixed
 have hb1 : (0 : Int) ≤ (i : Int) + 1 ∧ (i : Int) + 1 ≤ (n : Int) := by omega
 have hb2 : (0 : Int) ≤ (i : Int) + 1 := by omega
 have hb3 : (i : Int) + 1 ≤ (n : Int) := by omega
 clear hzc hzv hW1 hnl hng h1 hcell hfrz hfr hb hsome
 go_enter Tryz.func197, Tryz.ntmps197
 go_wp2_with fail
 go_region_law_o (refine step_append_room rfl (.tmp 22) (.tmp 25) 25 rfl 80 i0 5 t81 hi0 hz5'.out b 0 i cap (by simp [Act.eval, Act.put]) A (n - (i + 1)) (cap - (i + 1)) news (by simp [Act.eval, Act.put]) s1.out hsrc.out s2.out (by omega) s3.out ?_; rw [← hW.out])
 go_wp2
 go_ret
 have e1 : i + (n - (i + 1)) = n - 1 := by omega
 refine ⟨?_, ?_⟩
 · rw [e1]
   rfl
 · rw [e1, X.out, Z.out]
theorem alc (L : List al) (i : Nat) (hi : i < L.length) : Ctr Tryz.prog 197 [.osl 0 0 L.length 5, .int .i64 i, .int .i64 ((i : Int) + 1)] [some (rows al.cs L)] (.osl 0 0 (L.length - 1) 5)
 [some (rows al.cs (L.take i ++ L.drop (i + 1)) ++ [.int .i64 0, .int .i64 0, .int .i64 0, .int .i64 0, .int .i64 0])] := by
 refine Ctr.raw (by kernel_rfl) (fun w vs m av I hs => ?_)
 obtain ⟨n, hn⟩ : ∃ n, n = L.length := ⟨_, rfl⟩
 have hlen : (rows al.cs L).length = n * 5 := by rw [gz, hn]
 have h0 := I.slots 0 (by simp)
 have h1 := I.slots 1 (by simp)
 have h2 := I.slots 2 (by simp)
 dsimp only [List.getElem_cons_zero, List.getElem_cons_succ] at h0 h1 h2
 have e1 := tg h1
 have e2 := tg h2
 obtain ⟨v0, hv0⟩ : ∃ v0, v0 = vs.getD 0 Go.undef := ⟨_, rfl⟩
 rw [← hv0] at h0
 have hvs : vs = #[v0, .int .i64 i, .int .i64 ((i : Int) + 1)] := by
  have hsz : vs.size = 3 := hs
  apply Array.ext
  · simpa using hsz
  · intro k hk hk'
    have hk3 : k < 3 := by omega
    have hg : vs[k] = vs.getD k Go.undef := by simp [Array.getD, hk]
    rw [hg]
    rcases (show k = 0 ∨ k = 1 ∨ k = 2 by omega) with rfl | rfl | rfl
    · exact hv0.symm
    · exact e1
    · exact e2
 cases h0 with
 | osl _ _ _ cap _ cs hid hl hc hsz =>
  have hcs : cs = rows al.cs L := by
   have := hid.1
   simpa using this.symm
  subst hcs
  rcases I.rh.blk 0 _ hid.1 with ⟨C, T, fr, hb, hfr, hle, hr⟩ | ⟨E, c, es, hb, hmb, _⟩
  rotate_left
  · have := hid.2
    rw [hmb] at this
    cases this
  have hrow : dh w (m 0) = C.size := by simp [dh, hb]
  rw [hrow] at hsz
  rw [← hn] at hc hi ⊢
  obtain ⟨news, hnews⟩ : ∃ news : List Value, news = (List.range ((n - (i + 1)) * 5)).map fun t => C.getD ((i + 1) * 5 + t) Go.undef := ⟨_, rfl⟩
  have hnl : news.length = (n - (i + 1)) * 5 := by rw [hnews]; simp
  have hng : ∀ t, t < (n - (i + 1)) * 5 → news[t]? = some (C.getD ((i + 1) * 5 + t) Go.undef) := fun t ht => by rw [hnews]; simp [ht]
  have hcellAll := bf (cs := al.cs) L
  have h1c : ∀ u ∈ news, u.oneCell' = true := by
   intro u hu
   rw [hnews] at hu
   obtain ⟨t, ht, rfl⟩ := List.mem_map.1 hu
   have ht' := List.mem_range.1 ht
   have hk : (i + 1) * 5 + t < (rows al.cs L).length := by rw [hlen]; omega
   exact (ahr (hr _ hk) (List.all_eq_true.1 hcellAll _ (List.getElem_mem hk))).1
  rw [hvs, ← hn]
  refine (ai5 (m 0) n cap i C T w hb hfr (by omega) hc hi news hnl hng h1c).mono ?_
  rintro e w' ⟨rfl, rfl⟩
  have hbd : w.drew.heap[m 0]? = some (.cells C T fr) := hb
  have hw : ((w.drew).setCells (m 0) (i * 5) news).setCells (m 0) ((n - 1) * 5) fw.cells.toList = w.drew.setRow (m 0) (we (we C (i * 5) news) ((n - 1) * 5) fw.cells.toList) := by
   rw [vf (m 0) news _ w.drew C T _ hbd, vf (m 0) _ _ _ _ T _ (setRow_heap w.drew (m 0) C _ T _ hbd), setRow_setRow]
  rw [hw]
  have I1 := I.world (Ext.drew _ w)
  have hz5 : fw.cells.toList.length = 5 := rfl
  have hcut : rows al.cs (L.take i ++ L.drop (i + 1)) = (rows al.cs L).take (i * 5) ++ (rows al.cs L).drop ((i + 1) * 5) := by rw [jk, agp al.csl, tu al.csl]
  have hl1 : ((rows al.cs L).take (i * 5)).length = i * 5 := by rw [List.length_take, hlen]; omega
  have hl2 : ((rows al.cs L).drop ((i + 1) * 5)).length = (n - (i + 1)) * 5 := by rw [List.length_drop, hlen]; omega
  rw [hcut]
  obtain ⟨J, hstep⟩ := I1.setRow (id := 0) (cs := rows al.cs L) (cs' := (rows al.cs L).take (i * 5) ++ (rows al.cs L).drop ((i + 1) * 5) ++ [.int .i64 0, .int .i64 0, .int .i64 0, .int .i64 0, .int .i64 0])
   (C := C) (C' := we (we C (i * 5) news) ((n - 1) * 5) fw.cells.toList) (T := T) hid hbd hfr (by rw [qm, qm]) (by simp only [List.length_append, hl1, hl2, hlen, List.length_cons, List.length_nil]; omega) (by simp only [List.length_append, hl1, hl2, qm, List.length_cons, List.length_nil]; omega) (fun k hk => by
    simp only [List.length_append, hl1, hl2, List.length_cons, List.length_nil] at hk
    have hrd : ∀ j (hj : j < (rows al.cs L).length), RV w.drew m [some (rows al.cs L)] (avm av m [some (rows al.cs L)]) true (C.getD j Go.undef) (rows al.cs L)[j] := by
     rcases I1.rh.blk 0 _ hid.1 with ⟨C2, T2, fr2, hb2, _, _, hr2⟩ | ⟨E, c, es, hb2, hmb, _⟩
     · rw [hbd] at hb2
       simp only [Option.some.injEq, Obj.cells.injEq] at hb2
       obtain ⟨rfl, _⟩ := hb2
       exact hr2
     · rw [hbd] at hb2; cases hb2
    rcases Nat.lt_or_ge k (i * 5) with h | h
    · rw [w8 _ _ _ _ (by omega), w8 _ _ _ _ (by omega)]
      have := hrd k (by omega)
      simpa [List.getElem_append, hl1, hl2, h, show k < i * 5 + (n - (i + 1)) * 5 by omega] using this
    · rcases Nat.lt_or_ge k ((n - 1) * 5) with h' | h'
      · rw [w8 _ _ _ _ (by omega)]
        have hj : k - i * 5 < news.length := by omega
        have := aik news C (i * 5) (k - i * 5) hj (by omega)
        rw [show i * 5 + (k - i * 5) = k by omega] at this
        rw [this]
        have h3 := hng (k - i * 5) (by omega)
        rw [List.getElem?_eq_getElem hj] at h3
        simp only [Option.some.injEq] at h3
        rw [h3]
        have h4 := hrd ((i + 1) * 5 + (k - i * 5)) (by omega)
        have hlt : ¬ k < i * 5 := by omega
        simpa [List.getElem_append, hl1, hl2, hlt, show k < i * 5 + (n - (i + 1)) * 5 by omega, show k - i * 5 < (n - (i + 1)) * 5 by omega] using h4
      · have hj : k - (n - 1) * 5 < fw.cells.toList.length := by rw [hz5]; omega
        have := aik fw.cells.toList (we C (i * 5) news) ((n - 1) * 5) (k - (n - 1) * 5) hj (by rw [qm]; omega)
        rw [show (n - 1) * 5 + (k - (n - 1) * 5) = k by omega] at this
        rw [this]
        have hge : ¬ k < i * 5 + (n - (i + 1)) * 5 := by omega
        have e5 : ∀ q, (hq : q < 5) → ([V.int .i64 0, .int .i64 0, .int .i64 0, .int .i64 0, .int .i64 0] : List V)[q]'(by simpa using hq) = .int .i64 0 := fun q hq => by
         rcases (show q = 0 ∨ q = 1 ∨ q = 2 ∨ q = 3 ∨ q = 4 by omega) with rfl | rfl | rfl | rfl | rfl <;> rfl
        have e6 : ∀ q, (hq : q < 5) → fw.cells.toList[q]'(by rw [hz5]; exact hq) = .int .i64 0 := fun q hq => by
         rcases (show q = 0 ∨ q = 1 ∨ q = 2 ∨ q = 3 ∨ q = 4 by omega) with rfl | rfl | rfl | rfl | rfl <;> rfl
        rw [e6 _ (by omega), List.getElem_append_right (by rw [List.length_append, hl1, hl2]; omega), e5 _ (by rw [List.length_append, hl1, hl2]; omega)]
        exact .int _ _)
  refine ⟨_, m, _, _, rfl, ?_, J, ?_⟩
  · rfl
  · have := RV.osl (w := w.drew.setRow (m 0) (we (we C (i * 5) news) ((n - 1) * 5) fw.cells.toList)) (m := m) (h := [some ((rows al.cs L).take (i * 5) ++ (rows al.cs L).drop ((i + 1) * 5) ++ [.int .i64 0, .int .i64 0, .int .i64 0, .int .i64 0, .int .i64 0])]) (av := avm av m [some ((rows al.cs L).take (i * 5) ++ (rows al.cs L).drop ((i + 1) * 5) ++ [.int .i64 0, .int .i64 0, .int .i64 0, .int .i64 0, .int .i64 0])]) 0 0 (n - 1) cap 5 _ ⟨rfl, ?_⟩ ?_ (by omega) ?_
    · exact this
    · have hlen2 : 5 ≤ ((rows al.cs L).take (i * 5) ++ (rows al.cs L).drop ((i + 1) * 5) ++ [V.int .i64 0,   .int .i64 0, .int .i64 0, .int .i64 0, .int .i64 0]).length := by simp only [List.length_append, List.length_cons, List.length_nil]; omega
      match h : ((rows al.cs L).take (i * 5) ++ (rows al.cs L).drop ((i + 1) * 5) ++ [V.int .i64 0, .int .i64 0, .int .i64 0, .int .i64 0, .int .i64 0]), hlen2 with
      | [], h2 => rfl
      | [x], h2 => simp at h2
      | _ :: _ :: _, _ => rfl
    · simp only [List.length_append, hl1, hl2, List.length_cons, List.length_nil]; omega
    · have : dh (w.drew.setRow (m 0) (we (we C (i * 5) news) ((n - 1) * 5) fw.cells.toList)) (m 0) = C.size := by
       simp only [dh, setRow_heap w.drew (m 0) C _ T _ hbd, qm]
      rw [this]; omega
end Go.Proofs
end
section
set_option maxRecDepth 100000
set_option maxHeartbeats 1000000
namespace Go.Proofs
open Go.Lv
def z5 : List V := [.int .i64 0, .int .i64 0, .int .i64 0, .int .i64 0, .int .i64 0]
theorem ap6 (w : ae) (i : Nat) (n v : Int) (hw : wB w = true) (hi : i < w.Shocks.length) : Ctr Tryz.prog 179 [.ptr 0 0, .int .i64 i, .agg [.int .i64 8, .int .i64 n, .int .i64 v]] [some (w.oc 1 2), some (rows bc.cs w.Posts), some (rows al.cs w.Shocks)] (.bool (aev w w.Shocks[i]))
 [some ((jq w i).oc 1 2), some (rows bc.cs w.Posts), some (rows al.cs (w.Shocks.take i ++ w.Shocks.drop (i + 1)) ++ z5)] := by
 have W := ew hw
 have hx := W.shocks _ (List.getElem_mem hi)
 have hb := gk.1 hx
 have hr := bw al.csl hi
 have sl := W.slen
 have hwi : IntKind.i64.wrap ((i : Int) + 1) = (i : Int) + 1 := wrap_i64 (by omega) (by omega)
 have hwa : IntKind.i64.wrap (w.Archived + 1) = w.Archived + 1 := by have := W.arch; exact wrap_i64 (by omega) (by omega)
 have hwn : IntKind.i64.wrap (w.Now - w.Shocks[i].Tick) = w.Now - w.Shocks[i].Tick := by have := W.now; exact wrap_i64 (by omega) (by omega)
 have e : (w.Shocks.take i ++ w.Shocks.drop (i + 1)).length = w.Shocks.length - 1 := by simp; omega
 have hall : (rows al.cs (w.Shocks.take i ++ w.Shocks.drop (i + 1)) ++ z5).all ch = true := by
  rw [List.all_append, bf]; rfl
 have hg : grown [some (rows al.cs w.Shocks)] [some (rows al.cs (w.Shocks.take i ++ w.Shocks.drop (i + 1)) ++ z5)] := by
  refine ⟨⟨?_, by rw [r8 hall, ml]⟩, trivial⟩
  rw [List.length_append, gz, gz, e]
  show _ = (w.Shocks.length - 1) * 5 + 5
  omega
 refine Ctr.intro Tryz.mixed Tryz.func179 rfl Tryz.aji ?_
 refine ev2 @Tryz.ntmps179 @Tryz.results179 ?_
 refine rn4 @ae.oc.eq_1 @hr @al.cs.eq_1 @hwi ?_
 refine ai.dp [2] false ( alc w.Shocks i hi) (by decide) ⟨leO, leO, leO, trivial⟩ anm ( hg) (.inl rfl) ?_
 refine rn2 @ae.oc.eq_1 @hwa ?_
 clear hall hg
 repeat' (first | (refine ax.bz (fun _ => ?_) (fun _ => ?_) <;> (repeat ((repeat1' (first | simp -implicitDefEqProofs -dsimp only [go_sem, *] | simp -dsimp (disch := omega) only [wrap_i64])); repeat (with_reducible refine df ?_)))) | (refine ax.cu (fun _ => ?_) (fun _ => ?_) <;> (repeat ((repeat1' (first | simp -implicitDefEqProofs -dsimp only [go_sem, *] | simp -dsimp (disch := omega) only [wrap_i64])); repeat (with_reducible refine df ?_)))))
 all_goals
  refine aj.pick [0, 1, 2] (by decide) (fun j hj => by have hj' : j = 0 ∨ j = 1 ∨ j = 2 := (by omega); rcases hj' with rfl | rfl | rfl <;> rfl) (.inl (by first | rfl | (simp [ren, aev, *]; done))) ?_
  simp [az, bg, ren, bb, posOf, ab, ae.oc, jq, z5, *]
  try omega
theorem bj {x y : V} (h : LeV x y := by first | exact leA | exact ae.le rfl rfl | exact ae.leT rfl rfl rfl) : LeV x y := h
theorem ae.leT {h : Hp} {w : ae} {i0 i1 n : Nat} {z : List V} (hn : n = w.Shocks.length) (h0 : h[i0]? = some (some (rows bc.cs w.Posts))) (h1 : h[i1]? = some (some (rows al.cs w.Shocks ++ z))) : LeV (ren (fh h 3) 3 (.agg [.int .i64 w.Now, .osl i0 0 w.Posts.length 3, .osl i1 0 n 5, .int .i64 w.Next, .int .i64 w.Archived])) w.v := by
 subst hn
 refine .inl ?_
 have e : ∀ y : List V, (rows al.cs w.Shocks ++ y).take (w.Shocks.length * 5) = rows al.cs w.Shocks := fun y => List.take_left' (gz _)
 simp only [ae.v, ren, List.map_cons, List.map_nil, fh, h0, h1, ab, List.drop_zero, db, List.map_append, e]
def fo (w : ae) (k n v : Int) : ae := if k = 1 then ⟨w.Now + (if 1000000 < v then 1000000 else v), w.Posts, w.Shocks, w.Next, w.Archived⟩ else fu w k n v
theorem ap3 (w : ae) (n v : Int) (hw : wB w = true) (hv : 1 ≤ v) : Ctr Tryz.prog 145 [w.v, .agg [.int .i64 1, .int .i64 n, .int .i64 v]] [] (.tup [(fo w 1 n v).o 0 1, .bool (e7 w 1 n v)]) [some (rows bc.cs w.Posts), some (rows al.cs w.Shocks)] := by
 have W := ew hw
 have pl := W.plen
 have sl := W.slen
 have wn := W.now
 have hw1 : IntKind.i64.wrap (1000000 - w.Now) = 1000000 - w.Now := wrap_i64 (by omega) (by omega)
 have hw2 : IntKind.i64.wrap (w.Now + (if 1000000 < v then 1000000 else v)) = w.Now + (if 1000000 < v then 1000000 else v) := by split <;> exact wrap_i64 (by omega) (by omega)
 have hgood := dx (fo w 1 n v) (by simp [fo]; omega) (by simp [fo]; omega)
 have e2 : e7 w 1 n v = (decide (v ≤ 1000000 - w.Now) && wB (fo w 1 n v)) := by
  by_cases h : v ≤ 1000000 - w.Now
  · have h2 : ¬ 1000000 < v := by omega
    simp [e7, pn, fu, fo, h, h2]
  · simp [e7, pn, h]
 have e1 : fo w 1 n v = ⟨w.Now + (if 1000000 < v then 1000000 else v), w.Posts, w.Shocks, w.Next, w.Archived⟩ := by simp [fo]
 rw [e2]
 rw [e1] at hgood ⊢
 simp only [ae.v] at hgood
 refine Ctr.intro Tryz.mixed Tryz.func145 rfl Tryz.wh ?_
 refine ev2 @Tryz.ntmps145 @Tryz.results145 ?_
 refine ev1 @ae.v.eq_1 ?_
 (have ct := du w (by omega) (by omega); (first | refine ak.at ct ⟨bj, trivial⟩ ?_ | refine ai.at ct ⟨bj, trivial⟩ ?_); clear ct)
 refine rn3 @ae.o.eq_1 @hw1 @hw2 ?_
 refine ax.bz (fun g => ?_) (fun g => ?_) <;> refine rn1 @g ?_
 · skip
   (first | refine ak.at (hgood) ⟨bj, trivial⟩ ?_ | refine ai.at (hgood) ⟨bj, trivial⟩ ?_)
   refine rn1 @g ?_
   refine aj.pick [3, 4] (by decide) (fun j hj => by omega) (.inl ?_) ?_
   · first | rfl | (simp [ren, bb, posOf, ae.o, g]; done)
   · simp only [az, List.map_cons, List.map_nil, bg, List.getElem?_cons_zero, List.getElem?_cons_succ, ab]
 · skip
   refine aj.pick [3, 4] (by decide) (fun j hj => by omega) (.inl ?_) ?_
   · first | rfl | (simp [ren, bb, posOf, ae.o, g]; done)
   · simp only [az, List.map_cons, List.map_nil, bg, List.getElem?_cons_zero, List.getElem?_cons_succ, ab]
theorem aos (w : ae) (k n v : Int) (hk : k = 2 ∨ k = 3) (hw : wB w = true) (hs : ea w k n v = true) : Ctr Tryz.prog 145 [w.v, .agg [.int .i64 k, .int .i64 n, .int .i64 v]] [] (.tup [(fo w k n v).o 0 1, .bool (e7 w k n v)]) [some (rows bc.cs (fo w k n v).Posts), some (rows al.cs w.Shocks)] := by
 have W := ew hw
 have pl := W.plen
 have sl := W.slen
 obtain ⟨i, hi, hix, hin⟩ : ∃ i, ∃ h : i < w.Posts.length, jx (lk n) w.Posts = (i : Int) ∧ lk n w.Posts[i] = true := by
  have : decide (0 ≤ jx (lk n) w.Posts) = true := by
   rcases hk with rfl | rfl <;> simp [ea] at hs <;> simp [hs.1]
  exact uw this
 have hst : w.Posts[i].Station = n := by simpa [lk] using hin
 have hp : pAt w n = i := by simp [pAt, hix]
 have e1 : fo w k n v = ⟨w.Now, w.Posts.set i ⟨n, decide (k = 3), w.Now⟩, w.Shocks, w.Next, w.Archived⟩ := by
  rcases hk with rfl | rfl <;> simp [fo, fu, hp]
 have e2 : e7 w k n v = (w.Posts[i].Up != decide (k = 3) && wB ⟨w.Now, w.Posts.set i ⟨n, decide (k = 3), w.Now⟩, w.Shocks, w.Next, w.Archived⟩) := by
  rcases hk with rfl | rfl <;> simp [e7, pn, fu, hp, akr hi]
 have hr := bw bc.csl hi
 have hlen : ∀ p, (w.Posts.set i p).length = w.Posts.length := fun p => by simp
 have s1 : ∀ b, dq (rows bc.cs w.Posts) (i * 3 + 1) [.bool b] = rows bc.cs (w.Posts.set i ⟨n, b, w.Posts[i].Since⟩) := fun b => pb (cs := bc.cs) bc.csl hi (by omega) (by rw [bc.cs, hst.symm]; rfl)
 have s2 : ∀ b, dq (rows bc.cs (w.Posts.set i ⟨n, b, w.Posts[i].Since⟩)) (i * 3 + 2) [.int .i64 w.Now] = rows bc.cs (w.Posts.set i ⟨n, b, w.Now⟩) := fun b => by
  have h := pb (cs := bc.cs) bc.csl (L := w.Posts.set i ⟨n, b, w.Posts[i].Since⟩) (j := i) (f := 2) (v := .int .i64 w.Now) (x := ⟨n, b, w.Now⟩) (by simpa using hi) (by omega) (by simp; rfl)
  rwa [List.set_set] at h
 have hrl : ∀ L : List bc, (rows bc.cs L).length = L.length * 3 := fun L => lu bc.csl L
 have hgood := dx ⟨w.Now, w.Posts.set i ⟨n, decide (k = 3), w.Now⟩, w.Shocks, w.Next, w.Archived⟩ (by simp; omega) (by simp; omega)
 have hroom : i * 3 + 3 ≤ w.Posts.length * 3 := by omega
 rw [e1, e2]
 simp only [ae.v, hlen] at hgood
 simp only [ae.o, hlen]
 rcases hk with rfl | rfl
 · have hd : decide ((2 : Int) = 3) = false := rfl
   rw [hd] at hgood ⊢
   refine Ctr.intro Tryz.mixed Tryz.func145 rfl Tryz.wh ?_
   refine ev2 @Tryz.ntmps145 @Tryz.results145 ?_
   refine ev1 @ae.v.eq_1 ?_
   (have ct := du w (by omega) (by omega); (first | refine ak.at ct ⟨bj, trivial⟩ ?_ | refine ai.at ct ⟨bj, trivial⟩ ?_); clear ct)
   refine rn1 @ae.o.eq_1 ?_
   (have ct := qt w n (by omega); (first | refine ak.at ct ⟨bj, bj, trivial⟩ ?_ | refine ai.at ct ⟨bj, bj, trivial⟩ ?_); clear ct)
   rw [hix]
   refine rn2 @hr @bc.cs.eq_1 ?_
   refine n8.path [true, true, true, true, true, true, true, true, true, true, true, true, true, false, false, false, false] [false, false, false, false, false, true, false, false, false, true, true, false, false, false, false, false, false] 1 [3] (by kernel_rfl) ?_
   refine rn7 @hr @bc.cs.eq_1 @s1 @s2 @hrl @hlen @Int.toNat_natCast ?_
   refine ax.bz (fun g => ?_) (fun g => ?_) <;> refine rn3 @g @s1 @s2 ?_
   · skip
     (first | refine ak.at (hgood) ⟨bj, trivial⟩ ?_ | refine ai.at (hgood) ⟨bj, trivial⟩ ?_)
     refine rn1 @g ?_
     simp at g
     refine aj.pick [3, 4] (by decide) (fun j hj => by omega) (.inl ?_) ?_
     · first | rfl | (simp [ren, bb, posOf, ae.o, g]; done)
     · simp only [az, List.map_cons, List.map_nil, bg, List.getElem?_cons_zero, List.getElem?_cons_succ, ab]
   · skip
     simp at g
     refine aj.pick [3, 4] (by decide) (fun j hj => by omega) (.inl ?_) ?_
     · first | rfl | (simp [ren, bb, posOf, ae.o, g]; done)
     · simp only [az, List.map_cons, List.map_nil, bg, List.getElem?_cons_zero, List.getElem?_cons_succ, ab]
 · have hd : decide ((3 : Int) = 3) = true := rfl
   rw [hd] at hgood ⊢
   refine Ctr.intro Tryz.mixed Tryz.func145 rfl Tryz.wh ?_
   refine ev2 @Tryz.ntmps145 @Tryz.results145 ?_
   refine ev1 @ae.v.eq_1 ?_
   (have ct := du w (by omega) (by omega); (first | refine ak.at ct ⟨bj, trivial⟩ ?_ | refine ai.at ct ⟨bj, trivial⟩ ?_); clear ct)
   refine rn1 @ae.o.eq_1 ?_
   (have ct := qt w n (by omega); (first | refine ak.at ct ⟨bj, bj, trivial⟩ ?_ | refine ai.at ct ⟨bj, bj, trivial⟩ ?_); clear ct)
   rw [hix]
   refine rn2 @hr @bc.cs.eq_1 ?_
   refine n8.path [true, true, true, true, true, true, true, true, true, true, true, true, true, false, false, false, false] [false, false, false, false, false, true, false, false, false, true, true, false, false, false, false, false, false] 1 [3] (by kernel_rfl) ?_
   refine rn7 @hr @bc.cs.eq_1 @s1 @s2 @hrl @hlen @Int.toNat_natCast ?_
   refine ax.bz (fun g => ?_) (fun g => ?_) <;> refine rn3 @g @s1 @s2 ?_
   · skip
     (first | refine ak.at (hgood) ⟨bj, trivial⟩ ?_ | refine ai.at (hgood) ⟨bj, trivial⟩ ?_)
     refine rn1 @g ?_
     simp at g
     refine aj.pick [3, 4] (by decide) (fun j hj => by omega) (.inl ?_) ?_
     · first | rfl | (simp [ren, bb, posOf, ae.o, g]; done)
     · simp only [az, List.map_cons, List.map_nil, bg, List.getElem?_cons_zero, List.getElem?_cons_succ, ab]
   · skip
     simp at g
     refine aj.pick [3, 4] (by decide) (fun j hj => by omega) (.inl ?_) ?_
     · first | rfl | (simp [ren, bb, posOf, ae.o, g]; done)
     · simp only [az, List.map_cons, List.map_nil, bg, List.getElem?_cons_zero, List.getElem?_cons_succ, ab]
theorem arc (w : ae) : (tc w.Posts w.Posts.length).length = upN w w.Posts.length := by simp [tc, upN]
theorem apy (w : ae) (n v : Int) (hw : wB w = true) : Ctr Tryz.prog 145 [w.v, .agg [.int .i64 4, .int .i64 n, .int .i64 v]] [] (.tup [(fo w 4 n v).o 0 1, .bool (e7 w 4 n v)]) [some (rows bc.cs w.Posts), some (rows al.cs (fo w 4 n v).Shocks)] := by
 have W := ew hw
 have pl := W.plen
 have sl := W.slen
 have wn := W.next
 have hwn : IntKind.i64.wrap (w.Next + 1) = w.Next + 1 := wrap_i64 (by omega) (by omega)
 obtain ⟨x, hx⟩ : ∃ x : al, x = ⟨w.Next, 0, (upN w w.Posts.length : Int), 0, w.Now⟩ := ⟨_, rfl⟩
 have e1 : fo w 4 n v = ⟨w.Now, w.Posts, w.Shocks ++ [x], w.Next + 1, w.Archived⟩ := by simp [fo, fu, hx]
 have e2 : e7 w 4 n v = wB ⟨w.Now, w.Posts, w.Shocks ++ [x], w.Next + 1, w.Archived⟩ := by simp [e7, pn, fu, hx]
 have hsn : rows al.cs w.Shocks ++ [.int .i64 w.Next, .int .i64 0, .int .i64 (upN w w.Posts.length : Int), .int .i64 0, .int .i64 w.Now] = rows al.cs (w.Shocks ++ [x]) := by
  rw [hx]
  exact dy (cs := al.cs) w.Shocks ⟨w.Next, 0, (upN w w.Posts.length : Int), 0, w.Now⟩
 have hln : w.Shocks.length + 1 = (w.Shocks ++ [x]).length := by simp
 have hup := vi w (by omega)
 rw [arc] at hup
 have hgood := dx ⟨w.Now, w.Posts, w.Shocks ++ [x], w.Next + 1, w.Archived⟩ (by simp; omega) (by simp; omega)
 rw [e1, e2]
 refine Ctr.intro Tryz.mixed Tryz.func145 rfl Tryz.wh ?_
 refine ev2 @Tryz.ntmps145 @Tryz.results145 ?_
 refine ev1 @ae.v.eq_1 ?_
 (have ct := du w (by omega) (by omega); (first | refine ak.at ct ⟨bj, trivial⟩ ?_ | refine ai.at ct ⟨bj, trivial⟩ ?_); clear ct)
 refine rn1 @ae.o.eq_1 ?_
 (first | refine ak.at (hup) ⟨bj, trivial⟩ ?_ | refine ai.at (hup) ⟨bj, trivial⟩ ?_)
 refine rn3 @hwn @hsn @hln ?_
 (first | refine ak.at (hgood) ⟨bj, trivial⟩ ?_ | refine ai.at (hgood) ⟨bj, trivial⟩ ?_)
 refine rn1 @hsn ?_
 refine aj.pick [3, 4] (by decide) (fun j hj => by omega) (.inl ?_) ?_
 · first | rfl | (simp [ren, bb, posOf, ae.o]; done)
 · simp only [az, List.map_cons, List.map_nil, bg, List.getElem?_cons_zero, List.getElem?_cons_succ, ab]
theorem ao7 (w : ae) (k n v : Int) (hk : k = 5 ∨ k = 6 ∨ k = 7) (hw : wB w = true) (hs : ea w k n v = true) (hv : -100 ≤ v ∧ v ≤ 100) : Ctr Tryz.prog 145 [w.v, .agg [.int .i64 k, .int .i64 n, .int .i64 v]] [] (.tup [(fo w k n v).o 0 1, .bool (e7 w k n v)]) [some (rows bc.cs w.Posts), some (rows al.cs (fo w k n v).Shocks)] := by
 have W := ew hw
 have pl := W.plen
 have sl := W.slen
 obtain ⟨i, hi, hix, hin⟩ : ∃ i, ∃ h : i < w.Shocks.length, jx (dz n) w.Shocks = (i : Int) ∧ dz n w.Shocks[i] = true := by
  have : decide (0 ≤ jx (dz n) w.Shocks) = true := by
   rcases hk with rfl | rfl | rfl <;> simp [ea] at hs <;> simp [hs]
  exact uw this
 have hp : sAt w n = i := by simp [sAt, hix]
 have hsh := zt hi
 have e1 : fo w k n v = ⟨w.Now, w.Posts, w.Shocks.set i (w4 w.Shocks[i] k v), w.Next, w.Archived⟩ := by
  rcases hk with rfl | rfl | rfl <;> simp [fo, fu, hp, hsh]
 have e2 : e7 w k n v = (abx w.Shocks[i] k && wB ⟨w.Now, w.Posts, w.Shocks.set i (w4 w.Shocks[i] k v), w.Next, w.Archived⟩) := by
  rcases hk with rfl | rfl | rfl <;> simp [e7, pn, fu, hp, hsh]
 have htr := ap7 w i k n v hk hw hi hv
 have hlen : ∀ p, (w.Shocks.set i p).length = w.Shocks.length := fun p => by simp
 have hgood := dx ⟨w.Now, w.Posts, w.Shocks.set i (w4 w.Shocks[i] k v), w.Next, w.Archived⟩ (by simp; omega) (by simp; omega)
 generalize w4 w.Shocks[i] k v = y at e1 e2 htr hgood
 have hg : grown [some (w.oc 1 2), some (rows bc.cs w.Posts), some (rows al.cs w.Shocks)] [some (w.oc 1 2), some (rows bc.cs w.Posts), some (rows al.cs (w.Shocks.set i y))] := by
  refine ⟨⟨rfl, rfl⟩, ⟨rfl, rfl⟩, ⟨by rw [gz, gz, hlen], by rw [ml, ml]⟩, trivial⟩
 rw [e1, e2]
 clear e1 e2
 simp only [ae.v, hlen] at hgood
 simp only [ae.o, hlen]
 generalize abx w.Shocks[i] k = b at *
 rcases hk with rfl | rfl | rfl
 · skip
   refine Ctr.intro Tryz.mixed Tryz.func145 rfl Tryz.wh ?_
   refine ev2 @Tryz.ntmps145 @Tryz.results145 ?_
   refine ev1 @ae.v.eq_1 ?_
   (have ct := du w (by omega) (by omega); (first | refine ak.at ct ⟨bj, trivial⟩ ?_ | refine ai.at ct ⟨bj, trivial⟩ ?_); clear ct)
   refine rn1 @ae.o.eq_1 ?_
   (have ct := kg w n (by omega); (first | refine ak.at ct ⟨bj, bj, trivial⟩ ?_ | refine ai.at ct ⟨bj, bj, trivial⟩ ?_); clear ct)
   rw [hix]
   refine rn0 ?_
   refine ai.dp [5, 3, 4] false htr (by decide) ⟨.inl rfl, .inl rfl, .inl rfl, trivial⟩ (by simp [az, bg, ren, bb, posOf, ab, ae.oc]) hg (.inl rfl) ?_
   refine rn1 @ae.oc.eq_1 ?_
   refine ax.bz (fun g => ?_) (fun g => ?_) <;> refine rn1 @g ?_
   · skip
     (first | refine ak.at (hgood) ⟨bj, trivial⟩ ?_ | refine ai.at (hgood) ⟨bj, trivial⟩ ?_)
     refine rn1 @g ?_
     refine aj.pick [3, 4] (by decide) (fun j hj => by omega) (.inl ?_) ?_
     · first | rfl | (simp [ren, bb, posOf, ae.o, g]; done)
     · simp only [az, List.map_cons, List.map_nil, bg, List.getElem?_cons_zero, List.getElem?_cons_succ, ab]
   · skip
     refine aj.pick [3, 4] (by decide) (fun j hj => by omega) (.inl ?_) ?_
     · first | rfl | (simp [ren, bb, posOf, ae.o, g]; done)
     · simp only [az, List.map_cons, List.map_nil, bg, List.getElem?_cons_zero, List.getElem?_cons_succ, ab]
 · skip
   refine Ctr.intro Tryz.mixed Tryz.func145 rfl Tryz.wh ?_
   refine ev2 @Tryz.ntmps145 @Tryz.results145 ?_
   refine ev1 @ae.v.eq_1 ?_
   (have ct := du w (by omega) (by omega); (first | refine ak.at ct ⟨bj, trivial⟩ ?_ | refine ai.at ct ⟨bj, trivial⟩ ?_); clear ct)
   refine rn1 @ae.o.eq_1 ?_
   (have ct := kg w n (by omega); (first | refine ak.at ct ⟨bj, bj, trivial⟩ ?_ | refine ai.at ct ⟨bj, bj, trivial⟩ ?_); clear ct)
   rw [hix]
   refine rn0 ?_
   refine ai.dp [5, 3, 4] false htr (by decide) ⟨.inl rfl, .inl rfl, .inl rfl, trivial⟩ (by simp [az, bg, ren, bb, posOf, ab, ae.oc]) hg (.inl rfl) ?_
   refine rn1 @ae.oc.eq_1 ?_
   refine ax.bz (fun g => ?_) (fun g => ?_) <;> refine rn1 @g ?_
   · skip
     (first | refine ak.at (hgood) ⟨bj, trivial⟩ ?_ | refine ai.at (hgood) ⟨bj, trivial⟩ ?_)
     refine rn1 @g ?_
     refine aj.pick [3, 4] (by decide) (fun j hj => by omega) (.inl ?_) ?_
     · first | rfl | (simp [ren, bb, posOf, ae.o, g]; done)
     · simp only [az, List.map_cons, List.map_nil, bg, List.getElem?_cons_zero, List.getElem?_cons_succ, ab]
   · skip
     refine aj.pick [3, 4] (by decide) (fun j hj => by omega) (.inl ?_) ?_
     · first | rfl | (simp [ren, bb, posOf, ae.o, g]; done)
     · simp only [az, List.map_cons, List.map_nil, bg, List.getElem?_cons_zero, List.getElem?_cons_succ, ab]
 · skip
   refine Ctr.intro Tryz.mixed Tryz.func145 rfl Tryz.wh ?_
   refine ev2 @Tryz.ntmps145 @Tryz.results145 ?_
   refine ev1 @ae.v.eq_1 ?_
   (have ct := du w (by omega) (by omega); (first | refine ak.at ct ⟨bj, trivial⟩ ?_ | refine ai.at ct ⟨bj, trivial⟩ ?_); clear ct)
   refine rn1 @ae.o.eq_1 ?_
   (have ct := kg w n (by omega); (first | refine ak.at ct ⟨bj, bj, trivial⟩ ?_ | refine ai.at ct ⟨bj, bj, trivial⟩ ?_); clear ct)
   rw [hix]
   refine rn0 ?_
   refine ai.dp [5, 3, 4] false htr (by decide) ⟨.inl rfl, .inl rfl, .inl rfl, trivial⟩ (by simp [az, bg, ren, bb, posOf, ab, ae.oc]) hg (.inl rfl) ?_
   refine rn1 @ae.oc.eq_1 ?_
   refine ax.bz (fun g => ?_) (fun g => ?_) <;> refine rn1 @g ?_
   · skip
     (first | refine ak.at (hgood) ⟨bj, trivial⟩ ?_ | refine ai.at (hgood) ⟨bj, trivial⟩ ?_)
     refine rn1 @g ?_
     refine aj.pick [3, 4] (by decide) (fun j hj => by omega) (.inl ?_) ?_
     · first | rfl | (simp [ren, bb, posOf, ae.o, g]; done)
     · simp only [az, List.map_cons, List.map_nil, bg, List.getElem?_cons_zero, List.getElem?_cons_succ, ab]
   · skip
     refine aj.pick [3, 4] (by decide) (fun j hj => by omega) (.inl ?_) ?_
     · first | rfl | (simp [ren, bb, posOf, ae.o, g]; done)
     · simp only [az, List.map_cons, List.map_nil, bg, List.getElem?_cons_zero, List.getElem?_cons_succ, ab]
theorem ao0 (w : ae) (n v : Int) (hw : wB w = true) (hs : ea w 8 n v = true) : Ctr Tryz.prog 145 [w.v, .agg [.int .i64 8, .int .i64 n, .int .i64 v]] [] (.tup [(fo w 8 n v).o 0 1, .bool (e7 w 8 n v)]) [some (rows bc.cs w.Posts), some (rows al.cs (fo w 8 n v).Shocks)] := by
 have W := ew hw
 have pl := W.plen
 have sl := W.slen
 obtain ⟨i, hi, hix, hin⟩ : ∃ i, ∃ h : i < w.Shocks.length, jx (dz n) w.Shocks = (i : Int) ∧ dz n w.Shocks[i] = true := by
  have : decide (0 ≤ jx (dz n) w.Shocks) = true := by
   simp [ea] at hs
   simp [hs.1]
  exact uw this
 have hp : sAt w n = i := by simp [sAt, hix]
 have hsh := zt hi
 have e1 : fo w 8 n v = jq w i := by simp [fo, fu, jq, hp]
 have e2 : e7 w 8 n v = (aev w w.Shocks[i] && wB (jq w i)) := by simp [e7, pn, fu, jq, hp, hsh]
 have hgood := dx (jq w i) (by simp [jq]; omega) (by simp [jq]; omega)
 have htr := ap6 w i n v hw hi
 have e3 : (jq w i).Shocks = w.Shocks.take i ++ w.Shocks.drop (i + 1) := rfl
 have hall : (rows al.cs (w.Shocks.take i ++ w.Shocks.drop (i + 1)) ++ z5).all ch = true := by
  rw [List.all_append, bf]; rfl
 have e : (w.Shocks.take i ++ w.Shocks.drop (i + 1)).length = w.Shocks.length - 1 := by simp; omega
 have hg : grown [some (w.oc 1 2), some (rows bc.cs w.Posts), some (rows al.cs w.Shocks)] [some ((jq w i).oc 1 2), some (rows bc.cs w.Posts), some (rows al.cs (w.Shocks.take i ++ w.Shocks.drop (i + 1)) ++ z5)] := by
  refine ⟨⟨rfl, rfl⟩, ⟨rfl, rfl⟩, ⟨?_, by rw [r8 hall, ml]⟩, trivial⟩
  rw [List.length_append, gz, gz, e]
  show _ = (w.Shocks.length - 1) * 5 + 5
  omega
 rw [e1, e2, e3]
 refine Ctr.intro Tryz.mixed Tryz.func145 rfl Tryz.wh ?_
 refine ev2 @Tryz.ntmps145 @Tryz.results145 ?_
 refine ev1 @ae.v.eq_1 ?_
 (have ct := du w (by omega) (by omega); (first | refine ak.at ct ⟨bj, trivial⟩ ?_ | refine ai.at ct ⟨bj, trivial⟩ ?_); clear ct)
 refine rn1 @ae.o.eq_1 ?_
 (have ct := kg w n (by omega); (first | refine ak.at ct ⟨bj, bj, trivial⟩ ?_ | refine ai.at ct ⟨bj, bj, trivial⟩ ?_); clear ct)
 rw [hix]
 refine rn0 ?_
 refine ai.dp [5, 3, 4] false htr (by decide) ⟨.inl rfl, .inl rfl, .inl rfl, trivial⟩ (by simp [az, bg, ren, bb, posOf, ab, ae.oc]) hg (.inl rfl) ?_
 refine rn2 @ae.oc.eq_1 @z5.eq_1 ?_
 clear hall hg
 have htk : ∀ y : List V, (rows al.cs (w.Shocks.take i ++ w.Shocks.drop (i + 1)) ++ y).take ((jq w i).Shocks.length * 5) = rows al.cs (w.Shocks.take i ++ w.Shocks.drop (i + 1)) := fun y => List.take_left' (by rw [gz]; rfl)
 refine ax.bz (fun g => ?_) (fun g => ?_) <;> refine rn1 @g ?_
 · skip
   (first | refine ak.at (hgood) ⟨bj, trivial⟩ ?_ | refine ai.at (hgood) ⟨bj, trivial⟩ ?_)
   refine rn1 @g ?_
   refine aj.trim 4 ((jq w i).Shocks.length * 5) rfl (by omega) (by simp only [List.length_append, gz, e3, List.length_cons, List.length_nil]; omega) (r8 (by simp [bf, ch])) (by rw [htk]; exact ml _) ?_ ?_ ?_
   · simp [fits]
   · simp [fits, ahm, List.all_append]
   · skip
     simp only [htk, List.set_cons_zero, List.set_cons_succ]
     refine aj.pick [3, 4] (by decide) (fun j hj => by omega) (.inl ?_) ?_
     · first | rfl | (simp [ren, bb, posOf, ae.o, g]; done)
     · simp only [az, List.map_cons, List.map_nil, bg, List.getElem?_cons_zero, List.getElem?_cons_succ, ab]
 · skip
   refine aj.trim 4 ((jq w i).Shocks.length * 5) rfl (by omega) (by simp only [List.length_append, gz, e3, List.length_cons, List.length_nil]; omega) (r8 (by simp [bf, ch])) (by rw [htk]; exact ml _) ?_ ?_ ?_
   · simp [fits]
   · simp [fits, ahm, List.all_append]
   · skip
     simp only [htk, List.set_cons_zero, List.set_cons_succ]
     refine aj.pick [3, 4] (by decide) (fun j hj => by omega) (.inl ?_) ?_
     · first | rfl | (simp [ren, bb, posOf, ae.o, g]; done)
     · simp only [az, List.map_cons, List.map_nil, bg, List.getElem?_cons_zero, List.getElem?_cons_succ, ab]
theorem atn (w : ae) (k n v : Int) (hw : wB w = true) (hs : ea w k n v = true) : Ctr Tryz.prog 145 [w.v, .agg [.int .i64 k, .int .i64 n, .int .i64 v]] [] (.tup [(fo w k n v).o 0 1, .bool (e7 w k n v)]) [some (rows bc.cs (fo w k n v).Posts), some (rows al.cs (fo w k n v).Shocks)] := by
 rcases qk hs with ⟨rfl, h1⟩ | hk | rfl | rfl | ⟨hk, h1⟩
 · have e : (fo w 1 n v).Posts = w.Posts ∧ (fo w 1 n v).Shocks = w.Shocks := by simp [fo]
   rw [e.1, e.2]
   exact ap3 w n v hw h1
 · have e : (fo w k n v).Shocks = w.Shocks := by rcases hk with rfl | rfl <;> simp [fo, fu]
   rw [e]
   exact aos w k n v hk hw hs
 · have e : (fo w 4 n v).Posts = w.Posts := by simp [fo, fu]
   rw [e]
   exact apy w n v hw
 · have e : (fo w 8 n v).Posts = w.Posts := by simp [fo, fu]
   rw [e]
   exact ao0 w n v hw hs
 · have e : (fo w k n v).Posts = w.Posts := by rcases hk with rfl | rfl | rfl <;> simp [fo, fu]
   rw [e]
   exact ao7 w k n v hk hw hs h1
theorem al0 {w : ae} {k n v : Int} (hw : wB w = true) (h : e7 w k n v = true) : fo w k n v = fu w k n v := by
 unfold fo
 split
 · rename_i h1
   subst h1
   have := (ew hw).now
   have h2 : v ≤ 1000000 - w.Now := by
    simp only [e7, pn, if_true, Bool.and_eq_true, decide_eq_true_eq] at h
    exact h.1
   have h3 : ¬ 1000000 < v := by omega
   simp [fu, h3]
 · rfl
theorem yd (w : ae) (k n v : Int) (hp : w.Posts.length ≤ 16777216) (hs : w.Shocks.length ≤ 16777216) : Ctr Tryz.prog 109 [w.v, .agg [.int .i64 k, .int .i64 n, .int .i64 v]] [] (ado (fi w k n v)) (aet (fi w k n v)) := by
 refine Ctr.intro Tryz.mixed Tryz.func109 rfl Tryz.a0l ?_
 refine ev2 @Tryz.ntmps109 @Tryz.results109 ?_
 refine ev1 @ae.v.eq_1 ?_
 (have ct := dx w (by omega) (by omega); (first | refine ak.at ct ⟨bj, trivial⟩ ?_ | refine ai.at ct ⟨bj, trivial⟩ ?_); clear ct)
 have no : fi w k n v = none → ∀ h : Hp, aj 0 (.tup [.agg [.int .i64 0, .nilsl, .nilsl, .int .i64 0, .int .i64 0], .bool false]) h (ado (fi w k n v)) (aet (fi w k n v)) := by
  intro e h
  rw [e]
  exact aj.au rfl (by rfl)
 cases hw : wB w with
 | false =>
  refine rn0 ?_
  exact no (by simp [fi, hw]) _
 | true =>
  refine rn0 ?_
  (have ct := ao6 w k n v hp hs; (first | refine ak.at ct ⟨bj, bj, trivial⟩ ?_ | refine ai.at ct ⟨bj, bj, trivial⟩ ?_); clear ct)
  cases hst : ea w k n v with
  | false =>
   refine rn0 ?_
   exact no (by simp [fi, hst]) _
  | true =>
   refine rn0 ?_
   have hm := atn w k n v hw hst
   cases hd : e7 w k n v with
   | false =>
    rw [hd] at hm
    (first | refine ak.at (hm) ⟨bj, bj, trivial⟩ ?_ | refine ai.at (hm) ⟨bj, bj, trivial⟩ ?_)
    refine rn1 @ae.o.eq_1 ?_
    exact no (by simp [fi, hd]) _
   | true =>
    rw [hd] at hm
    (first | refine ak.at (hm) ⟨bj, bj, trivial⟩ ?_ | refine ai.at (hm) ⟨bj, bj, trivial⟩ ?_)
    refine rn1 @ae.o.eq_1 ?_
    have e : fi w k n v = some (fu w k n v) := by simp [fi, hw, hst, hd]
    have e2 := al0 hw hd
    rw [e, ← e2, ado, aet]
    refine aj.pick [3, 4] (by decide) (fun j hj => by omega) (.inl ?_) ?_
    · first | rfl | (simp [ren, bb, posOf, ae.o]; done)
    · simp only [az, List.map_cons, List.map_nil, bg, List.getElem?_cons_zero, List.getElem?_cons_succ, ab]
end Go.Proofs
end
section
set_option maxRecDepth 100000
set_option maxHeartbeats 2000000
namespace Go.Proofs
open Go.Lv
def agm (B : List Int) (k : Int) (r : V) (hout : Hp) : Prop := ∃ (K : List Int) (c : Cur), K.length ≤ 10 ∧ c.le k ∧ r = .osl 1 0 K.length 1 ∧ hout = [some (c.cs B), some (rows IntS.cs K)]
theorem ug {B : List Int} (hB : CB B) {k : Int} (hk : k ≤ 1000000) {c : Cur} (hc : c.le k) : lr Tryz.prog 51 [.ptr 0 0] [some (c.cs B)] (agm B (k + 100)) := by
 refine lr.intro Tryz.mixed Tryz.func51 rfl Tryz.a6i ?_
 refine ev2 @Tryz.ntmps51 @Tryz.results51 ?_
 refine rn0 ?_
 refine dn.intro (fun x : Nat × List Int × Cur => 1 ≤ x.1 ∧ x.1 ≤ 7 ∧ x.2.1.length + 1 ≤ x.1 ∧ x.2.2.le (k + 2 * x.1)) (fun x => ⟨(.ptr 0 0 :: .undef :: .undef :: .osl 1 0 x.2.1.length 1 :: .int .i64 x.1 :: (un 38 [])), [some (x.2.2.cs B), some (rows IntS.cs x.2.1)], 1⟩) (fun x => 7 - x.1) (1, [], c) ⟨Nat.le_refl 1, (by decide : 1 ≤ 7), Nat.le_refl 1, ⟨hc.1, by have := hc.2; simp only []; omega⟩⟩ ?_ (fun x hx => ?_)
 · refine bo.cut (2) (by simp) (by simp) ?_ ?_
   · simp [LeC, LeV, ren, bh]
   · simp [cb, ck, Cur.ren, rows]
 obtain ⟨n, K, c1⟩ := x
 obtain ⟨x1, x2, x3, x4⟩ := hx
 dsimp only at x1 x2 x3 x4
 refine ev0 ?_
 refine aw.split (fun h1 => ?_) (fun h1 => ?_) <;> refine ev1 @h1 ?_
 · have hn : n < 7 := by have := of_decide_eq_true h1; omega
   have hw : IntKind.i64.wrap (4 * (n : Int)) = 4 * (n : Int) := wrap_i64 (by omega) (by omega)
   have hw2 : IntKind.i64.wrap ((n : Int) + 1) = ((n + 1 : Nat) : Int) := by rw [wrap_i64 (by omega) (by omega)]; omega
   have hc2 := dt (B := B) (n := 3) x4
   refine ai.dp [0] false (aqf hB ⟨x4.1, by have := x4.2; omega⟩ 3 (by omega)) (by decide) ⟨leO, leO, trivial⟩ (dm rfl) (il B _ _) (.inl rfl) ?_
   refine rn2 @hw @Cur.ren ?_
   refine aw.split (fun h2 => ?_) (fun h2 => ?_)
   · refine rn3 @h2 @hw @hw2 ?_
     refine ⟨(n + 1, K ++ [4 * (n : Int)], fj B 3 c1), ⟨by simp only []; omega, by simp only []; omega, by simp only [List.length_append, List.length_singleton]; omega, ⟨hc2.1, by have := hc2.2; simp only []; omega⟩⟩, ?_, by simp only []; omega⟩
     refine bo.cut (2) (by simp) (by simp) ?_ ?_
     · simp [LeC, LeV, ren, bh]
     · simp only [← dy]; simp [cb, ck, Cur.ren, ab, ren, IntS.cs]
   · refine rn2 @h2 @hw2 ?_
     refine ⟨(n + 1, K, fj B 3 c1), ⟨by simp only []; omega, by simp only []; omega, by simp only []; omega, ⟨hc2.1, by have := hc2.2; simp only []; omega⟩⟩, ?_, by simp only []; omega⟩
     refine bo.cut (2) (by simp) (by simp) ?_ ?_
     · simp [LeC, LeV, ren, bh]
     · simp [cb, ck, Cur.ren, ab]
 · have hn : n = 7 := by have := of_decide_eq_false h1; omega
   subst hn
   have hp := fb hB (n := 32) x4.1
   have hc2 := dt (B := B) (n := 32) x4
   have fin : ∀ (K' : List Int) (c' : Cur), K'.length ≤ 10 → c'.le (k + 100) → agm B (k + 100) (.osl 1 0 K'.length 1) [some (c'.cs B), some (rows IntS.cs K')] := fun K' c' h h' => ⟨K', c', h, h', rfl, rfl⟩
   refine ai.dp [0] false (j6 hB ⟨x4.1, by have := x4.2; omega⟩ 32 (by omega)) (by decide) ⟨leO, leO, trivial⟩ (dm rfl) (il B _ _) (.inl rfl) ?_
   refine rn1 @Cur.ren ?_
   refine aw.split (fun h2 => ?_) (fun h2 => ?_)
   · refine rn1 @h2 ?_
     have hc3 := dt (B := B) (n := 4) hc2
     have bnd : (fj B 32 c1).le 4611686018427387903 := ⟨hc2.1, by have := hc2.2; omega⟩
     refine ai.dp [0, 2] false (o6 hB bnd [0, 4, 99, 100] (by decide) (by decide)) (by decide) ⟨leO, leO, trivial⟩ (br rfl rfl) (bq B _ _) (.inl rfl) ?_
     refine rn1 @Cur.ren ?_
     refine ⟨_, _, fin (K ++ [nb B [0, 4, 99, 100] (fj B 32 c1)]) (fj B 4 (fj B 32 c1)) (by simp only [List.length_append, List.length_singleton]; omega) ⟨hc3.1, by have := hc3.2; omega⟩, ?_⟩
     have hsn : rows IntS.cs K ++ [.int .i64 (nb B [0, 4, 99, 100] (fj B 32 c1))] = rows IntS.cs (K ++ [nb B [0, 4, 99, 100] (fj B 32 c1)]) := dy _ _
     rw [List.length_append, List.length_singleton, hsn]
     refine aj.pick [0, 1] (by decide) (fun j hj => by cases j <;> simp_all) (.inl ?_) ?_
     · simp [ren, bb, posOf]
     · simp only [az, List.map_cons, List.map_nil, bg, List.getElem?_cons_zero, List.getElem?_cons_succ, ab, Cur.ren]; rfl
   · refine rn1 @h2 ?_
     refine aw.split (fun h3 => ?_) (fun h3 => ?_)
     · refine rn1 @h3 ?_
       refine dn.intro (fun x : List Int × Cur => x.1.length ≤ 9 ∧ x.2.le (k + 20 + 2 * x.1.length)) (fun x => ⟨(.ptr 0 0 :: .undef :: .undef :: .osl 1 0 x.1.length 1 :: (un 39 [])), [some (x.2.cs B), some (rows IntS.cs x.1)], 1⟩) (fun x => 10 - x.1.length) (K, fj B 32 c1) ⟨by simp only []; omega, ⟨hc2.1, by have := hc2.2; simp only []; omega⟩⟩ ?_ (fun x hx => ?_)
       · refine bo.cut (2) (by simp) (by simp) ?_ ?_
         · simp [LeC, LeV, ren, bh]
         · simp [cb, ck, Cur.ren, ab]
       obtain ⟨K2, c2⟩ := x
       obtain ⟨y1, y2⟩ := hx
       dsimp only at y1 y2
       have hp2 := fb hB (n := 2) y2.1
       have hc4 := dt (B := B) (n := 2) y2
       refine ev0 ?_
       refine ai.dp [0] false (j6 hB ⟨y2.1, by have := y2.2; omega⟩ 2 (by omega)) (by decide) ⟨leO, leO, trivial⟩ (dm rfl) (il B _ _) (.inl rfl) ?_
       generalize hq : iy B 2 c2 = q at *
       have hwq : IntKind.i64.wrap (8 + q) = 8 + q := wrap_i64 (by omega) (by omega)
       have hwl : IntKind.i64.wrap (50 + (K2.length : Int)) = 50 + (K2.length : Int) := wrap_i64 (by omega) (by omega)
       refine rn2 @Cur.ren @hwq ?_
       refine aw.split (fun h4 => ?_) (fun h4 => ?_)
       · refine rn2 @h4 @hwl ?_
         have h4' := of_decide_eq_true h4
         refine ⟨(K2 ++ [50 + (K2.length : Int)], fj B 2 c2), ⟨by simp only [List.length_append, List.length_singleton]; omega, ⟨hc4.1, by have := hc4.2; simp only [List.length_append, List.length_singleton]; omega⟩⟩, ?_, by simp only [List.length_append, List.length_singleton]; omega⟩
         refine bo.cut (2) (by simp) (by simp) ?_ ?_
         · simp [LeC, LeV, ren, bh]
         · simp only [← dy]; simp [cb, ck, Cur.ren, ab, ren, IntS.cs]
       · refine rn1 @h4 ?_
         exact ⟨_, _, fin K2 (fj B 2 c2) (by omega) ⟨hc4.1, by have := hc4.2; omega⟩, aj.refl _ _ _⟩
     · refine rn1 @h3 ?_
       exact ⟨_, _, fin K (fj B 32 c1) (by omega) ⟨hc2.1, by have := hc2.2; omega⟩, aj.refl _ _ _⟩
end Go.Proofs
end
section
set_option maxRecDepth 100000
set_option maxHeartbeats 2000000
namespace Go.Proofs
open Go.Lv
def sR (x : Int) : Prop := -1000000000000 ≤ x ∧ x ≤ 1000000000000
def cr.sm (s : cr) : Prop := sR s.Kind ∧ sR s.Number ∧ sR s.Value
def ae.sm (w : ae) : Prop := (∀ p ∈ w.Posts, sR p.Station) ∧ ∀ x ∈ w.Shocks, sR x.Number
def aw4 (B : List Int) (k : Int) (r : V) (hout : Hp) : Prop := ∃ (s : cr) (c : Cur), s.sm ∧ c.le k ∧ r = s.v ∧ hout = [some (c.cs B)]
theorem ig {B : List Int} {k : Int} {h : Hp} {K N v : Int} {c : Cur} (h0 : h[0]? = some (some (c.cs B))) (hK : sR K) (hN : sR N) (hv : sR v) (hc : c.le k) : yl 1 (.agg [.int .i64 K, .int .i64 N, .int .i64 v]) h (aw4 B k) := by
 refine ⟨_, _, ⟨⟨K, N, v⟩, c, ⟨hK, hN, hv⟩, hc, rfl, rfl⟩, aj.pick [0] (by decide) (fun j hj => by cases j <;> simp_all) (.inl rfl) ?_⟩
 simp only [az, List.map_cons, List.map_nil, bg, h0, Cur.ren]
theorem cm {c : Cur} {a b : Int} (h : c.le a) (hab : a ≤ b) : c.le b := ⟨h.1, Int.le_trans h.2 hab⟩
theorem bm {K : List Int} {v : Int} (h : v ∈ K) (hk : ∀ x ∈ K, bu x) : bu v := hk v h
theorem cx {K : List Int} {v : Int} (h : v ∈ K) (hk : ∀ x ∈ K, sR x) : sR v := hk v h
theorem aaj {B : List Int} (hB : CB B) {k : Int} (hk : k ≤ 1000000) {c : Cur} (hc : c.le k) (w : ae) (hw : w.sm) (hp : w.Posts.length ≤ 1000) (hs : w.Shocks.length ≤ 1000) : lr Tryz.prog 63 [.ptr 0 0, w.v] [some (c.cs B)] (aw4 B (k + 20)) := by
 have hcb : ∀ {c' : Cur} {k' : Int}, c'.le k' → k' ≤ 4000000 → c'.le 4611686018427387903 := fun h h' => ⟨h.1, by have := h.2; omega⟩
 refine lr.intro Tryz.mixed Tryz.func63 rfl Tryz.awc ?_
 refine ev2 @Tryz.ntmps63 @Tryz.results63 ?_
 refine rn1 @ae.v.eq_1 ?_
 refine an hB hc (by omega) [1, 1, 2, 3, 4, 4, 5, 6, 7, 8] (by simp) (by simp) rfl rfl rfl (fun vc1 c1 pvc1 hc1 => ?_)
 have hk1 : sR vc1 := cx pvc1 (by simp [sR])
 refine rn1 @Cur.ren ?_
 refine aw.split (fun h1 => ?_) (fun h1 => ?_)
 · have h1' := of_decide_eq_true h1
   obtain ⟨i, hi⟩ : ∃ i : Nat, iy B w.Posts.length c1 = i := ⟨(iy B w.Posts.length c1).toNat, by have := (fb hB (n := w.Posts.length) hc1.1).1; omega⟩
   have hi' : i < w.Posts.length := by have := (fb hB (n := w.Posts.length) hc1.1).2; omega
   have hr0 := yf (cs := bc.cs) bc.csl hi'
   refine rn1 @h1 ?_
   refine clT.tree (fun s2 => ∃ (st : Int) (c2 : Cur), sR st ∧ c2.le (k + 4) ∧ s2 = ⟨(.ptr 0 0 :: .undef :: .undef :: .ptr 1 0 :: .ptr 2 0 :: .int .i64 1 :: .int .i64 st :: .int .i64 vc1 :: (un 95 [])), [some (c2.cs B), some w.cs, some [.int .i64 0, .int .i64 0, .int .i64 0]], 1⟩) (.take 0 (.take 2 (.take 3 (.alt 1 (.alt 4 (.alt 5 (.alt 6 (.take 7 (.take 8 (.alt 9 (.alt 10 .done .stop) .stop))) .stop) .stop) .stop) (.alt 4 (.alt 1 (.alt 5 (.alt 6 (.take 7 (.take 8 (.alt 9 (.alt 10 .done .stop) .stop))) .stop) .stop) (.alt 5 (.alt 1 (.alt 6 (.take 7 (.take 8 (.alt 9 (.alt 10 .done .stop) .stop))) .stop) (.alt 6 (.alt 1 (.take 7 (.take 8 (.alt 9 (.alt 10 .done .stop) .stop))) .stop) .stop)) .stop)) .stop))))) (by kernel_rfl) (fun s2 hs2 => ?_) ?_
   · obtain ⟨st, c2, hst, hc2, rfl⟩ := hs2
     have hst1 : st = st := rfl
     refine rn1 @ae.cs.eq_1 ?_
     refine aw.split (fun h2 => ?_) (fun h2 => ?_)
     · have h2' := of_decide_eq_true h2
       obtain ⟨j, hj⟩ : ∃ j : Nat, iy B w.Shocks.length c2 = j := ⟨(iy B w.Shocks.length c2).toNat, by have := (fb hB (n := w.Shocks.length) hc2.1).1; omega⟩
       have hj' : j < w.Shocks.length := by have := (fb hB (n := w.Shocks.length) hc2.1).2; omega
       have hr0 := bw al.csl hj'
       refine rn1 @h2 ?_
       refine clT.tree (fun s2 => ∃ (c3 : Cur), c3.le (k + 6) ∧ s2 = ⟨(.ptr 0 0 :: .undef :: .undef :: .ptr 1 0 :: .ptr 2 0 :: .int .i64 1 :: .int .i64 st :: .int .i64 vc1 :: .ptr 3 0 :: (un 94 [])), [some (c3.cs B), some w.cs, some [.int .i64 0, .int .i64 0, .int .i64 0], some w.Shocks[j].cs], 1⟩) (.take 0 (.take 2 (.take 3 (.alt 1 (.alt 4 (.alt 5 (.alt 6 (.take 7 (.alt 8 (.alt 9 (.alt 10 .done .stop) .stop) (.alt 9 (.alt 8 (.alt 10 .done .stop) .stop) .stop))) (.alt 9 (.alt 6 (.take 7 (.alt 8 (.alt 10 .done .stop) .stop)) .stop) .stop)) (.alt 9 (.alt 5 (.alt 6 (.take 7 (.alt 8 (.alt 10 .done .stop) .stop)) .stop) .stop) .stop)) (.alt 9 (.alt 4 (.alt 5 (.alt 6 (.take 7 (.alt 8 (.alt 10 .done .stop) .stop)) .stop) .stop) .stop) .stop)) (.alt 4 (.alt 1 (.alt 5 (.alt 6 (.take 7 (.alt 8 (.alt 9 (.alt 10 .done .stop) .stop) (.alt 9 (.alt 8 (.alt 10 .done .stop) .stop) .stop))) (.alt 9 (.alt 6 (.take 7 (.alt 8 (.alt 10 .done .stop) .stop)) .stop) .stop)) (.alt 9 (.alt 5 (.alt 6 (.take 7 (.alt 8 (.alt 10 .done .stop) .stop)) .stop) .stop) .stop)) (.alt 5 (.alt 1 (.alt 6 (.take 7 (.alt 8 (.alt 9 (.alt 10 .done .stop) .stop) (.alt 9 (.alt 8 (.alt 10 .done .stop) .stop) .stop))) (.alt 9 (.alt 6 (.take 7 (.alt 8 (.alt 10 .done .stop) .stop)) .stop) .stop)) (.alt 6 (.alt 1 (.take 7 (.alt 8 (.alt 9 (.alt 10 .done .stop) .stop) (.alt 9 (.alt 8 (.alt 10 .done .stop) .stop) .stop))) (.alt 9 (.alt 1 (.take 7 (.alt 8 (.alt 10 .done .stop) .stop)) .stop) .stop)) (.alt 9 (.alt 1 (.alt 6 (.take 7 (.alt 8 (.alt 10 .done .stop) .stop)) .stop) (.alt 6 (.alt 1 (.take 7 (.alt 8 (.alt 10 .done .stop) .stop)) .stop) .stop)) .stop))) (.alt 9 (.alt 1 (.alt 5 (.alt 6 (.take 7 (.alt 8 (.alt 10 .done .stop) .stop)) .stop) .stop) (.alt 5 (.alt 1 (.alt 6 (.take 7 (.alt 8 (.alt 10 .done .stop) .stop)) .stop) (.alt 6 (.alt 1 (.take 7 (.alt 8 (.alt 10 .done .stop) .stop)) .stop) .stop)) .stop)) .stop))) (.alt 9 (.alt 1 (.alt 4 (.alt 5 (.alt 6 (.take 7 (.alt 8 (.alt 10 .done .stop) .stop)) .stop) .stop) .stop) (.alt 4 (.alt 1 (.alt 5 (.alt 6 (.take 7 (.alt 8 (.alt 10 .done .stop) .stop)) .stop) .stop) (.alt 5 (.alt 1 (.alt 6 (.take 7 (.alt 8 (.alt 10 .done .stop) .stop)) .stop) (.alt 6 (.alt 1 (.take 7 (.alt 8 (.alt 10 .done .stop) .stop)) .stop) .stop)) .stop)) .stop)) .stop)))))) (by kernel_rfl) (fun s2 hs2 => ?_) ?_
       · obtain ⟨c8, hc8, rfl⟩ := hs2
         have hnm : sR w.Shocks[j].Number := hw.2 _ (List.getElem_mem hj')
         refine rn1 @al.cs.eq_1 ?_
         generalize w.Shocks[j].Number = nm at hnm ⊢
         generalize w.Shocks[j].State = sv
         refine eb hB hc8 (by omega) 2 (by omega) rfl (fun vc3 c3 hc3 => ?_)
         refine rn1 @Cur.ren ?_
         refine ax.split (fun h7 => ?_) (fun h7 => ?_) <;> refine rn2 @h7 @Cur.ren ?_
         · (first | refine ak.at (ef _ _ _) ⟨leA, leA, leA, trivial⟩ ?_ | refine ai.at (ef _ _ _) ⟨leA, leA, leA, trivial⟩ ?_)
           refine rn0 ?_
           refine aw.split (fun h8 => ?_) (fun h8 => ?_)
           · have hsv : sv = 0 ∨ sv = 1 ∨ sv = 2 ∨ sv = 3 := by simp [ep] at h8; omega
             rcases hsv with rfl | rfl | rfl | rfl
             all_goals
              refine rn1 @h8 ?_
              refine eb hB hc3 (by omega) 40 (by omega) rfl (fun vc4 c4 hc4 => ?_)
              refine rn1 @Cur.ren ?_
              refine aw.split (fun h5 => ?_) (fun h5 => ?_)
              · refine rn1 @h5 ?_
                refine an hB hc4 (by omega) [0, 9, 6] (by simp) (by simp) rfl rfl rfl (fun vc5 c5 pvc5 hc5 => ?_)
                refine rn1 @Cur.ren ?_
                refine an hB hc5 (by omega) [0, nm, 999] (by simp) (by simp) rfl rfl rfl (fun vc6 c6 pvc6 hc6 => ?_)
                refine rn1 @Cur.ren ?_
                refine an hB hc6 (by omega) [0, 1, -1] (by simp) (by simp) rfl rfl rfl (fun vc7 c7 pvc7 hc7 => ?_)
                refine rn1 @Cur.ren ?_
                exact ig rfl (cx pvc5 (by simp [sR])) (cx pvc6 (by intro x hx; simp at hx; rcases hx with rfl | rfl | rfl <;> first | assumption | simp [sR])) (cx pvc7 (by simp [sR])) (cm hc7 (by omega))
              · refine rn1 @h5 ?_
                repeat' (first | (refine aw.split (fun h6 => ?_) (fun h6 => ?_) <;> refine rn2 @h6 @Cur.ren ?_) | (exact ig rfl (by first | assumption | (simp [sR]; done) | exact cx pvc5 (by simp [sR])) (by first | assumption | (simp [sR]; done) | exact cx pvc5 (by simp [sR])) (by first | assumption | (simp [sR]; done) | exact cx pvc5 (by simp [sR])) (by first | exact cm hc5 (by omega) | exact cm hc4 (by omega))) | (refine an hB hc4 (by omega) [1, 100, 6000, 6001, 1000001, 0] (by simp) (by simp) rfl rfl rfl (fun vc5 c5 pvc5 hc5 => ?_); refine rn1 @Cur.ren ?_) | (refine an hB hc4 (by omega) [-20, 12, 30, 49, 50, 95, 96] (by simp) (by simp) rfl rfl rfl (fun vc5 c5 pvc5 hc5 => ?_); refine rn1 @Cur.ren ?_) | (refine an hB hc4 (by omega) [0, 1, -3, 10, -10, 11] (by simp) (by simp) rfl rfl rfl (fun vc5 c5 pvc5 hc5 => ?_); refine rn1 @Cur.ren ?_))
           · refine rn1 @h8 ?_
             refine eb hB hc3 (by omega) 40 (by omega) rfl (fun vc4 c4 hc4 => ?_)
             refine rn1 @Cur.ren ?_
             refine aw.split (fun h5 => ?_) (fun h5 => ?_)
             · refine rn1 @h5 ?_
               refine an hB hc4 (by omega) [0, 9, 6] (by simp) (by simp) rfl rfl rfl (fun vc5 c5 pvc5 hc5 => ?_)
               refine rn1 @Cur.ren ?_
               refine an hB hc5 (by omega) [0, nm, 999] (by simp) (by simp) rfl rfl rfl (fun vc6 c6 pvc6 hc6 => ?_)
               refine rn1 @Cur.ren ?_
               refine an hB hc6 (by omega) [0, 1, -1] (by simp) (by simp) rfl rfl rfl (fun vc7 c7 pvc7 hc7 => ?_)
               refine rn1 @Cur.ren ?_
               exact ig rfl (cx pvc5 (by simp [sR])) (cx pvc6 (by intro x hx; simp at hx; rcases hx with rfl | rfl | rfl <;> first | assumption | simp [sR])) (cx pvc7 (by simp [sR])) (cm hc7 (by omega))
             · refine rn1 @h5 ?_
               repeat' (first | (refine aw.split (fun h6 => ?_) (fun h6 => ?_) <;> refine rn2 @h6 @Cur.ren ?_) | (exact ig rfl (by first | assumption | (simp [sR]; done) | exact cx pvc5 (by simp [sR])) (by first | assumption | (simp [sR]; done) | exact cx pvc5 (by simp [sR])) (by first | assumption | (simp [sR]; done) | exact cx pvc5 (by simp [sR])) (by first | exact cm hc5 (by omega) | exact cm hc4 (by omega))) | (refine an hB hc4 (by omega) [1, 100, 6000, 6001, 1000001, 0] (by simp) (by simp) rfl rfl rfl (fun vc5 c5 pvc5 hc5 => ?_); refine rn1 @Cur.ren ?_) | (refine an hB hc4 (by omega) [-20, 12, 30, 49, 50, 95, 96] (by simp) (by simp) rfl rfl rfl (fun vc5 c5 pvc5 hc5 => ?_); refine rn1 @Cur.ren ?_) | (refine an hB hc4 (by omega) [0, 1, -3, 10, -10, 11] (by simp) (by simp) rfl rfl rfl (fun vc5 c5 pvc5 hc5 => ?_); refine rn1 @Cur.ren ?_))
         · skip
           refine eb hB hc3 (by omega) 40 (by omega) rfl (fun vc4 c4 hc4 => ?_)
           refine rn1 @Cur.ren ?_
           refine aw.split (fun h5 => ?_) (fun h5 => ?_)
           · refine rn1 @h5 ?_
             refine an hB hc4 (by omega) [0, 9, 6] (by simp) (by simp) rfl rfl rfl (fun vc5 c5 pvc5 hc5 => ?_)
             refine rn1 @Cur.ren ?_
             refine an hB hc5 (by omega) [0, nm, 999] (by simp) (by simp) rfl rfl rfl (fun vc6 c6 pvc6 hc6 => ?_)
             refine rn1 @Cur.ren ?_
             refine an hB hc6 (by omega) [0, 1, -1] (by simp) (by simp) rfl rfl rfl (fun vc7 c7 pvc7 hc7 => ?_)
             refine rn1 @Cur.ren ?_
             exact ig rfl (cx pvc5 (by simp [sR])) (cx pvc6 (by intro x hx; simp at hx; rcases hx with rfl | rfl | rfl <;> first | assumption | simp [sR])) (cx pvc7 (by simp [sR])) (cm hc7 (by omega))
           · refine rn1 @h5 ?_
             repeat' (first | (refine aw.split (fun h6 => ?_) (fun h6 => ?_) <;> refine rn2 @h6 @Cur.ren ?_) | (exact ig rfl (by first | assumption | (simp [sR]; done) | exact cx pvc5 (by simp [sR])) (by first | assumption | (simp [sR]; done) | exact cx pvc5 (by simp [sR])) (by first | assumption | (simp [sR]; done) | exact cx pvc5 (by simp [sR])) (by first | exact cm hc5 (by omega) | exact cm hc4 (by omega))) | (refine an hB hc4 (by omega) [1, 100, 6000, 6001, 1000001, 0] (by simp) (by simp) rfl rfl rfl (fun vc5 c5 pvc5 hc5 => ?_); refine rn1 @Cur.ren ?_) | (refine an hB hc4 (by omega) [-20, 12, 30, 49, 50, 95, 96] (by simp) (by simp) rfl rfl rfl (fun vc5 c5 pvc5 hc5 => ?_); refine rn1 @Cur.ren ?_) | (refine an hB hc4 (by omega) [0, 1, -3, 10, -10, 11] (by simp) (by simp) rfl rfl rfl (fun vc5 c5 pvc5 hc5 => ?_); refine rn1 @Cur.ren ?_))
       · have pk := j6 hB (hcb hc2 (by omega)) w.Shocks.length (by omega)
         have hq := dt (B := B) (n := w.Shocks.length) hc2
         rw [hj] at pk
         generalize fj B w.Shocks.length c2 = c3 at pk hq
         refine rn0 ?_
         repeat' (first | (refine ai.dp [0] false pk (by decide) ⟨leO, leO, trivial⟩ (dm rfl) (il B _ _) (.inl rfl) ?_; refine rn3 @hr0 @al.cs.eq_1 @Cur.ren ?_) | (refine And.intro ?_ ?_) | exact trivial)
         all_goals
          refine ⟨_, ⟨c3, cm hq (by omega), rfl⟩, ?_⟩
          first
          | (refine bo.cut 4 (by simp) (by simp) ?_ ?_
             · (simp [LeC, LeV, ren, bh, hst1]; done)
             · (simp [cb, ck, Cur.ren, ren, ae.cs, ab, al.cs]; done))
          | (refine bo.pick [0, 1, 2, 4] (by decide) (fun j hj => by cases j <;> simp_all) ?_ ?_
             · (simp [LeG, LeC, LeV, ren, bb, posOf, hst1]; done)
             · (simp [az, bg, Cur.ren, ren, ae.cs, ab, al.cs]; done))
     · refine rn1 @h2 ?_
       obtain ⟨c3, ec3⟩ : ∃ x, x = c2 := ⟨_, rfl⟩
       have hc3 : c3.le (k + 6) := by rw [ec3]; exact cm hc2 (by omega)
       rw [← ec3]
       refine eb hB hc3 (by omega) 40 (by omega) rfl (fun vc4 c4 hc4 => ?_)
       refine rn1 @Cur.ren ?_
       refine aw.split (fun h5 => ?_) (fun h5 => ?_)
       · refine rn1 @h5 ?_
         refine an hB hc4 (by omega) [0, 9, 6] (by simp) (by simp) rfl rfl rfl (fun vc5 c5 pvc5 hc5 => ?_)
         refine rn1 @Cur.ren ?_
         refine an hB hc5 (by omega) [0, 1, 999] (by simp) (by simp) rfl rfl rfl (fun vc6 c6 pvc6 hc6 => ?_)
         refine rn1 @Cur.ren ?_
         refine an hB hc6 (by omega) [0, 1, -1] (by simp) (by simp) rfl rfl rfl (fun vc7 c7 pvc7 hc7 => ?_)
         refine rn1 @Cur.ren ?_
         exact ig rfl (cx pvc5 (by simp [sR])) (cx pvc6 (by intro x hx; simp at hx; rcases hx with rfl | rfl | rfl <;> first | assumption | simp [sR])) (cx pvc7 (by simp [sR])) (cm hc7 (by omega))
       · refine rn1 @h5 ?_
         repeat' (first | (refine aw.split (fun h6 => ?_) (fun h6 => ?_) <;> refine rn2 @h6 @Cur.ren ?_) | (exact ig rfl (by first | assumption | (simp [sR]; done) | exact cx pvc5 (by simp [sR])) (by first | assumption | (simp [sR]; done) | exact cx pvc5 (by simp [sR])) (by first | assumption | (simp [sR]; done) | exact cx pvc5 (by simp [sR])) (by first | exact cm hc5 (by omega) | exact cm hc4 (by omega))) | (refine an hB hc4 (by omega) [1, 100, 6000, 6001, 1000001, 0] (by simp) (by simp) rfl rfl rfl (fun vc5 c5 pvc5 hc5 => ?_); refine rn1 @Cur.ren ?_) | (refine an hB hc4 (by omega) [-20, 12, 30, 49, 50, 95, 96] (by simp) (by simp) rfl rfl rfl (fun vc5 c5 pvc5 hc5 => ?_); refine rn1 @Cur.ren ?_) | (refine an hB hc4 (by omega) [0, 1, -3, 10, -10, 11] (by simp) (by simp) rfl rfl rfl (fun vc5 c5 pvc5 hc5 => ?_); refine rn1 @Cur.ren ?_))
   · have pk := j6 hB (hcb hc1 (by omega)) w.Posts.length (by omega)
     have hq := dt (B := B) (n := w.Posts.length) hc1
     rw [hi] at pk
     generalize fj B w.Posts.length c1 = c2 at pk hq
     have hok := hw.1 _ (List.getElem_mem hi')
     refine rn0 ?_
     repeat' (first | (refine ai.dp [0] false pk (by decide) ⟨leO, leO, trivial⟩ (dm rfl) (il B _ _) (.inl rfl) ?_; refine rn3 @hr0 @bc.cs.eq_1 @Cur.ren ?_) | (refine And.intro ?_ ?_) | exact trivial)
     all_goals
      refine ⟨_, ⟨w.Posts[i].Station, c2, hok, cm hq (by omega), rfl⟩, ?_⟩
      refine bo.cut (3) (by simp) (by simp) ?_ ?_
      · simp [LeC, LeV, ren, bh]
      · simp [cb, ck, Cur.ren, ren, ae.cs, ab]
 · refine rn1 @h1 ?_
   obtain ⟨c2, ec2⟩ : ∃ x, x = c1 := ⟨_, rfl⟩
   rw [← ec2] at hc1 ⊢
   have hc2 : c2.le (k + 4) := cm hc1 (by omega)
   obtain ⟨st, hst1⟩ : ∃ x : Int, x = 1 := ⟨1, rfl⟩
   have hst : sR st := by rw [hst1]; simp [sR]
   refine aw.split (fun h2 => ?_) (fun h2 => ?_)
   · have h2' := of_decide_eq_true h2
     obtain ⟨j, hj⟩ : ∃ j : Nat, iy B w.Shocks.length c2 = j := ⟨(iy B w.Shocks.length c2).toNat, by have := (fb hB (n := w.Shocks.length) hc2.1).1; omega⟩
     have hj' : j < w.Shocks.length := by have := (fb hB (n := w.Shocks.length) hc2.1).2; omega
     have hr0 := bw al.csl hj'
     refine rn1 @h2 ?_
     refine clT.tree (fun s2 => ∃ (c3 : Cur), c3.le (k + 6) ∧ s2 = ⟨(.ptr 0 0 :: .undef :: .undef :: .ptr 1 0 :: .ptr 2 0 :: .int .i64 1 :: .int .i64 st :: .int .i64 vc1 :: .ptr 3 0 :: (un 94 [])), [some (c3.cs B), some w.cs, some [.int .i64 0, .int .i64 0, .int .i64 0], some w.Shocks[j].cs], 1⟩) (.take 0 (.take 2 (.take 3 (.alt 1 (.alt 4 (.alt 5 (.alt 6 (.take 7 (.alt 8 (.alt 9 (.alt 10 .done .stop) .stop) (.alt 9 (.alt 8 (.alt 10 .done .stop) .stop) .stop))) (.alt 9 (.alt 6 (.take 7 (.alt 8 (.alt 10 .done .stop) .stop)) .stop) .stop)) (.alt 9 (.alt 5 (.alt 6 (.take 7 (.alt 8 (.alt 10 .done .stop) .stop)) .stop) .stop) .stop)) (.alt 9 (.alt 4 (.alt 5 (.alt 6 (.take 7 (.alt 8 (.alt 10 .done .stop) .stop)) .stop) .stop) .stop) .stop)) (.alt 4 (.alt 1 (.alt 5 (.alt 6 (.take 7 (.alt 8 (.alt 9 (.alt 10 .done .stop) .stop) (.alt 9 (.alt 8 (.alt 10 .done .stop) .stop) .stop))) (.alt 9 (.alt 6 (.take 7 (.alt 8 (.alt 10 .done .stop) .stop)) .stop) .stop)) (.alt 9 (.alt 5 (.alt 6 (.take 7 (.alt 8 (.alt 10 .done .stop) .stop)) .stop) .stop) .stop)) (.alt 5 (.alt 1 (.alt 6 (.take 7 (.alt 8 (.alt 9 (.alt 10 .done .stop) .stop) (.alt 9 (.alt 8 (.alt 10 .done .stop) .stop) .stop))) (.alt 9 (.alt 6 (.take 7 (.alt 8 (.alt 10 .done .stop) .stop)) .stop) .stop)) (.alt 6 (.alt 1 (.take 7 (.alt 8 (.alt 9 (.alt 10 .done .stop) .stop) (.alt 9 (.alt 8 (.alt 10 .done .stop) .stop) .stop))) (.alt 9 (.alt 1 (.take 7 (.alt 8 (.alt 10 .done .stop) .stop)) .stop) .stop)) (.alt 9 (.alt 1 (.alt 6 (.take 7 (.alt 8 (.alt 10 .done .stop) .stop)) .stop) (.alt 6 (.alt 1 (.take 7 (.alt 8 (.alt 10 .done .stop) .stop)) .stop) .stop)) .stop))) (.alt 9 (.alt 1 (.alt 5 (.alt 6 (.take 7 (.alt 8 (.alt 10 .done .stop) .stop)) .stop) .stop) (.alt 5 (.alt 1 (.alt 6 (.take 7 (.alt 8 (.alt 10 .done .stop) .stop)) .stop) (.alt 6 (.alt 1 (.take 7 (.alt 8 (.alt 10 .done .stop) .stop)) .stop) .stop)) .stop)) .stop))) (.alt 9 (.alt 1 (.alt 4 (.alt 5 (.alt 6 (.take 7 (.alt 8 (.alt 10 .done .stop) .stop)) .stop) .stop) .stop) (.alt 4 (.alt 1 (.alt 5 (.alt 6 (.take 7 (.alt 8 (.alt 10 .done .stop) .stop)) .stop) .stop) (.alt 5 (.alt 1 (.alt 6 (.take 7 (.alt 8 (.alt 10 .done .stop) .stop)) .stop) (.alt 6 (.alt 1 (.take 7 (.alt 8 (.alt 10 .done .stop) .stop)) .stop) .stop)) .stop)) .stop)) .stop)))))) (by kernel_rfl) (fun s2 hs2 => ?_) ?_
     · obtain ⟨c8, hc8, rfl⟩ := hs2
       have hnm : sR w.Shocks[j].Number := hw.2 _ (List.getElem_mem hj')
       refine rn1 @al.cs.eq_1 ?_
       generalize w.Shocks[j].Number = nm at hnm ⊢
       generalize w.Shocks[j].State = sv
       refine eb hB hc8 (by omega) 2 (by omega) rfl (fun vc3 c3 hc3 => ?_)
       refine rn1 @Cur.ren ?_
       refine ax.split (fun h7 => ?_) (fun h7 => ?_) <;> refine rn2 @h7 @Cur.ren ?_
       · (first | refine ak.at (ef _ _ _) ⟨leA, leA, leA, trivial⟩ ?_ | refine ai.at (ef _ _ _) ⟨leA, leA, leA, trivial⟩ ?_)
         refine rn0 ?_
         refine aw.split (fun h8 => ?_) (fun h8 => ?_)
         · have hsv : sv = 0 ∨ sv = 1 ∨ sv = 2 ∨ sv = 3 := by simp [ep] at h8; omega
           rcases hsv with rfl | rfl | rfl | rfl
           all_goals
            refine rn1 @h8 ?_
            refine eb hB hc3 (by omega) 40 (by omega) rfl (fun vc4 c4 hc4 => ?_)
            refine rn1 @Cur.ren ?_
            refine aw.split (fun h5 => ?_) (fun h5 => ?_)
            · refine rn1 @h5 ?_
              refine an hB hc4 (by omega) [0, 9, 6] (by simp) (by simp) rfl rfl rfl (fun vc5 c5 pvc5 hc5 => ?_)
              refine rn1 @Cur.ren ?_
              refine an hB hc5 (by omega) [0, nm, 999] (by simp) (by simp) rfl rfl rfl (fun vc6 c6 pvc6 hc6 => ?_)
              refine rn1 @Cur.ren ?_
              refine an hB hc6 (by omega) [0, 1, -1] (by simp) (by simp) rfl rfl rfl (fun vc7 c7 pvc7 hc7 => ?_)
              refine rn1 @Cur.ren ?_
              exact ig rfl (cx pvc5 (by simp [sR])) (cx pvc6 (by intro x hx; simp at hx; rcases hx with rfl | rfl | rfl <;> first | assumption | simp [sR])) (cx pvc7 (by simp [sR])) (cm hc7 (by omega))
            · refine rn1 @h5 ?_
              repeat' (first | (refine aw.split (fun h6 => ?_) (fun h6 => ?_) <;> refine rn2 @h6 @Cur.ren ?_) | (exact ig rfl (by first | assumption | (simp [sR]; done) | exact cx pvc5 (by simp [sR])) (by first | assumption | (simp [sR]; done) | exact cx pvc5 (by simp [sR])) (by first | assumption | (simp [sR]; done) | exact cx pvc5 (by simp [sR])) (by first | exact cm hc5 (by omega) | exact cm hc4 (by omega))) | (refine an hB hc4 (by omega) [1, 100, 6000, 6001, 1000001, 0] (by simp) (by simp) rfl rfl rfl (fun vc5 c5 pvc5 hc5 => ?_); refine rn1 @Cur.ren ?_) | (refine an hB hc4 (by omega) [-20, 12, 30, 49, 50, 95, 96] (by simp) (by simp) rfl rfl rfl (fun vc5 c5 pvc5 hc5 => ?_); refine rn1 @Cur.ren ?_) | (refine an hB hc4 (by omega) [0, 1, -3, 10, -10, 11] (by simp) (by simp) rfl rfl rfl (fun vc5 c5 pvc5 hc5 => ?_); refine rn1 @Cur.ren ?_))
         · refine rn1 @h8 ?_
           refine eb hB hc3 (by omega) 40 (by omega) rfl (fun vc4 c4 hc4 => ?_)
           refine rn1 @Cur.ren ?_
           refine aw.split (fun h5 => ?_) (fun h5 => ?_)
           · refine rn1 @h5 ?_
             refine an hB hc4 (by omega) [0, 9, 6] (by simp) (by simp) rfl rfl rfl (fun vc5 c5 pvc5 hc5 => ?_)
             refine rn1 @Cur.ren ?_
             refine an hB hc5 (by omega) [0, nm, 999] (by simp) (by simp) rfl rfl rfl (fun vc6 c6 pvc6 hc6 => ?_)
             refine rn1 @Cur.ren ?_
             refine an hB hc6 (by omega) [0, 1, -1] (by simp) (by simp) rfl rfl rfl (fun vc7 c7 pvc7 hc7 => ?_)
             refine rn1 @Cur.ren ?_
             exact ig rfl (cx pvc5 (by simp [sR])) (cx pvc6 (by intro x hx; simp at hx; rcases hx with rfl | rfl | rfl <;> first | assumption | simp [sR])) (cx pvc7 (by simp [sR])) (cm hc7 (by omega))
           · refine rn1 @h5 ?_
             repeat' (first | (refine aw.split (fun h6 => ?_) (fun h6 => ?_) <;> refine rn2 @h6 @Cur.ren ?_) | (exact ig rfl (by first | assumption | (simp [sR]; done) | exact cx pvc5 (by simp [sR])) (by first | assumption | (simp [sR]; done) | exact cx pvc5 (by simp [sR])) (by first | assumption | (simp [sR]; done) | exact cx pvc5 (by simp [sR])) (by first | exact cm hc5 (by omega) | exact cm hc4 (by omega))) | (refine an hB hc4 (by omega) [1, 100, 6000, 6001, 1000001, 0] (by simp) (by simp) rfl rfl rfl (fun vc5 c5 pvc5 hc5 => ?_); refine rn1 @Cur.ren ?_) | (refine an hB hc4 (by omega) [-20, 12, 30, 49, 50, 95, 96] (by simp) (by simp) rfl rfl rfl (fun vc5 c5 pvc5 hc5 => ?_); refine rn1 @Cur.ren ?_) | (refine an hB hc4 (by omega) [0, 1, -3, 10, -10, 11] (by simp) (by simp) rfl rfl rfl (fun vc5 c5 pvc5 hc5 => ?_); refine rn1 @Cur.ren ?_))
       · skip
         refine eb hB hc3 (by omega) 40 (by omega) rfl (fun vc4 c4 hc4 => ?_)
         refine rn1 @Cur.ren ?_
         refine aw.split (fun h5 => ?_) (fun h5 => ?_)
         · refine rn1 @h5 ?_
           refine an hB hc4 (by omega) [0, 9, 6] (by simp) (by simp) rfl rfl rfl (fun vc5 c5 pvc5 hc5 => ?_)
           refine rn1 @Cur.ren ?_
           refine an hB hc5 (by omega) [0, nm, 999] (by simp) (by simp) rfl rfl rfl (fun vc6 c6 pvc6 hc6 => ?_)
           refine rn1 @Cur.ren ?_
           refine an hB hc6 (by omega) [0, 1, -1] (by simp) (by simp) rfl rfl rfl (fun vc7 c7 pvc7 hc7 => ?_)
           refine rn1 @Cur.ren ?_
           exact ig rfl (cx pvc5 (by simp [sR])) (cx pvc6 (by intro x hx; simp at hx; rcases hx with rfl | rfl | rfl <;> first | assumption | simp [sR])) (cx pvc7 (by simp [sR])) (cm hc7 (by omega))
         · refine rn1 @h5 ?_
           repeat' (first | (refine aw.split (fun h6 => ?_) (fun h6 => ?_) <;> refine rn2 @h6 @Cur.ren ?_) | (exact ig rfl (by first | assumption | (simp [sR]; done) | exact cx pvc5 (by simp [sR])) (by first | assumption | (simp [sR]; done) | exact cx pvc5 (by simp [sR])) (by first | assumption | (simp [sR]; done) | exact cx pvc5 (by simp [sR])) (by first | exact cm hc5 (by omega) | exact cm hc4 (by omega))) | (refine an hB hc4 (by omega) [1, 100, 6000, 6001, 1000001, 0] (by simp) (by simp) rfl rfl rfl (fun vc5 c5 pvc5 hc5 => ?_); refine rn1 @Cur.ren ?_) | (refine an hB hc4 (by omega) [-20, 12, 30, 49, 50, 95, 96] (by simp) (by simp) rfl rfl rfl (fun vc5 c5 pvc5 hc5 => ?_); refine rn1 @Cur.ren ?_) | (refine an hB hc4 (by omega) [0, 1, -3, 10, -10, 11] (by simp) (by simp) rfl rfl rfl (fun vc5 c5 pvc5 hc5 => ?_); refine rn1 @Cur.ren ?_))
     · have pk := j6 hB (hcb hc2 (by omega)) w.Shocks.length (by omega)
       have hq := dt (B := B) (n := w.Shocks.length) hc2
       rw [hj] at pk
       generalize fj B w.Shocks.length c2 = c3 at pk hq
       refine rn0 ?_
       repeat' (first | (refine ai.dp [0] false pk (by decide) ⟨leO, leO, trivial⟩ (dm rfl) (il B _ _) (.inl rfl) ?_; refine rn3 @hr0 @al.cs.eq_1 @Cur.ren ?_) | (refine And.intro ?_ ?_) | exact trivial)
       all_goals
        refine ⟨_, ⟨c3, cm hq (by omega), rfl⟩, ?_⟩
        first
        | (refine bo.cut 4 (by simp) (by simp) ?_ ?_
           · (simp [LeC, LeV, ren, bh, hst1]; done)
           · (simp [cb, ck, Cur.ren, ren, ae.cs, ab, al.cs]; done))
        | (refine bo.pick [0, 1, 2, 4] (by decide) (fun j hj => by cases j <;> simp_all) ?_ ?_
           · (simp [LeG, LeC, LeV, ren, bb, posOf, hst1]; done)
           · (simp [az, bg, Cur.ren, ren, ae.cs, ab, al.cs]; done))
   · refine rn1 @h2 ?_
     obtain ⟨c3, ec3⟩ : ∃ x, x = c2 := ⟨_, rfl⟩
     have hc3 : c3.le (k + 6) := by rw [ec3]; exact cm hc2 (by omega)
     rw [← ec3]
     refine eb hB hc3 (by omega) 40 (by omega) rfl (fun vc4 c4 hc4 => ?_)
     refine rn1 @Cur.ren ?_
     refine aw.split (fun h5 => ?_) (fun h5 => ?_)
     · refine rn1 @h5 ?_
       refine an hB hc4 (by omega) [0, 9, 6] (by simp) (by simp) rfl rfl rfl (fun vc5 c5 pvc5 hc5 => ?_)
       refine rn1 @Cur.ren ?_
       refine an hB hc5 (by omega) [0, 1, 999] (by simp) (by simp) rfl rfl rfl (fun vc6 c6 pvc6 hc6 => ?_)
       refine rn1 @Cur.ren ?_
       refine an hB hc6 (by omega) [0, 1, -1] (by simp) (by simp) rfl rfl rfl (fun vc7 c7 pvc7 hc7 => ?_)
       refine rn1 @Cur.ren ?_
       exact ig rfl (cx pvc5 (by simp [sR])) (cx pvc6 (by intro x hx; simp at hx; rcases hx with rfl | rfl | rfl <;> first | assumption | simp [sR])) (cx pvc7 (by simp [sR])) (cm hc7 (by omega))
     · refine rn1 @h5 ?_
       repeat' (first | (refine aw.split (fun h6 => ?_) (fun h6 => ?_) <;> refine rn2 @h6 @Cur.ren ?_) | (exact ig rfl (by first | assumption | (simp [sR]; done) | exact cx pvc5 (by simp [sR])) (by first | assumption | (simp [sR]; done) | exact cx pvc5 (by simp [sR])) (by first | assumption | (simp [sR]; done) | exact cx pvc5 (by simp [sR])) (by first | exact cm hc5 (by omega) | exact cm hc4 (by omega))) | (refine an hB hc4 (by omega) [1, 100, 6000, 6001, 1000001, 0] (by simp) (by simp) rfl rfl rfl (fun vc5 c5 pvc5 hc5 => ?_); refine rn1 @Cur.ren ?_) | (refine an hB hc4 (by omega) [-20, 12, 30, 49, 50, 95, 96] (by simp) (by simp) rfl rfl rfl (fun vc5 c5 pvc5 hc5 => ?_); refine rn1 @Cur.ren ?_) | (refine an hB hc4 (by omega) [0, 1, -3, 10, -10, 11] (by simp) (by simp) rfl rfl rfl (fun vc5 c5 pvc5 hc5 => ?_); refine rn1 @Cur.ren ?_))
end Go.Proofs
end
section
set_option maxRecDepth 100000
set_option maxHeartbeats 2000000
namespace Go.Proofs
open Go.Lv
def ae.mc (r : ae) (i : Nat) : List V := [.int .i64 r.Now, .sl r.Posts.length 3 (rows bc.cs r.Posts), .osl i 0 r.Shocks.length 5, .int .i64 r.Next, .int .i64 r.Archived]
def as0 (B : List Int) (k : Int) (L : List al) (r : V) (hout : Hp) : Prop := ∃ (s : cr) (c : Cur), s.ok ∧ c.le k ∧ r = s.v ∧ hout = [some (c.cs B), some (rows al.cs L)]
theorem fx {B : List Int} {k : Int} {L : List al} {h : Hp} {K N v : Int} {c : Cur} (h0 : h[0]? = some (some (c.cs B))) (h1 : h[1]? = some (some (rows al.cs L))) (hK : bu K) (hN : bu N) (hv : bu v) (hc : c.le k) : yl 2 (.agg [.int .i64 K, .int .i64 N, .int .i64 v]) h (as0 B k L) := by
 refine ⟨_, _, ⟨⟨K, N, v⟩, c, ⟨hK, hN, hv⟩, hc, rfl, rfl⟩, aj.pick [0, 1] (by decide) (fun j hj => by rcases j with _ | _ | j <;> first | rfl | omega) (.inl rfl) ?_⟩
 simp only [az, List.map_cons, List.map_nil, bg, h0, h1, Cur.ren, ab]
theorem af8 {B : List Int} (hB : CB B) {k : Int} (hk : k ≤ 1000000) {c : Cur} (hc : c.le k) (w : ae) (hw : w.ok) (hp : w.Posts.length ≤ 1000) (hs : w.Shocks.length ≤ 1000) : lr Tryz.prog 63 [.ptr 0 0, .agg (w.mc 1)] [some (c.cs B), some (rows al.cs w.Shocks)] (as0 B (k + 20) w.Shocks) := by
 have hcb : ∀ {c' : Cur} {k' : Int}, c'.le k' → k' ≤ 4000000 → c'.le 4611686018427387903 := fun h h' => ⟨h.1, by have := h.2; omega⟩
 refine lr.intro Tryz.mixed Tryz.func63 rfl Tryz.awc ?_
 refine ev2 @Tryz.ntmps63 @Tryz.results63 ?_
 refine rn1 @ae.mc.eq_1 ?_
 refine an hB hc (by omega) [1, 1, 2, 3, 4, 4, 5, 6, 7, 8] (by simp) (by simp) rfl rfl rfl (fun vc1 c1 pvc1 hc1 => ?_)
 have hk1 : bu vc1 := bm pvc1 (by simp [bu])
 refine rn1 @Cur.ren ?_
 refine aw.split (fun h1 => ?_) (fun h1 => ?_)
 · have h1' := of_decide_eq_true h1
   obtain ⟨i, hi⟩ : ∃ i : Nat, iy B w.Posts.length c1 = i := ⟨(iy B w.Posts.length c1).toNat, by have := (fb hB (n := w.Posts.length) hc1.1).1; omega⟩
   have hi' : i < w.Posts.length := by have := (fb hB (n := w.Posts.length) hc1.1).2; omega
   have hr0 := yf (cs := bc.cs) bc.csl hi'
   refine rn1 @h1 ?_
   refine clT.tree (fun s2 => ∃ (st : Int) (c2 : Cur), bu st ∧ c2.le (k + 4) ∧ s2 = ⟨(.ptr 0 0 :: .undef :: .undef :: .ptr 2 0 :: .ptr 3 0 :: .int .i64 1 :: .int .i64 st :: .int .i64 vc1 :: (un 95 [])), [some (c2.cs B), some (rows al.cs w.Shocks), some (w.mc 1), some [.int .i64 0, .int .i64 0, .int .i64 0]], 2⟩) (.take 0 (.take 2 (.take 3 (.alt 1 (.alt 4 (.alt 5 (.alt 6 (.take 7 (.take 8 (.alt 9 (.alt 10 .done .stop) .stop))) .stop) .stop) .stop) (.alt 4 (.alt 1 (.alt 5 (.alt 6 (.take 7 (.take 8 (.alt 9 (.alt 10 .done .stop) .stop))) .stop) .stop) (.alt 5 (.alt 1 (.alt 6 (.take 7 (.take 8 (.alt 9 (.alt 10 .done .stop) .stop))) .stop) (.alt 6 (.alt 1 (.take 7 (.take 8 (.alt 9 (.alt 10 .done .stop) .stop))) .stop) .stop)) .stop)) .stop))))) (by kernel_rfl) (fun s2 hs2 => ?_) ?_
   · obtain ⟨st, c2, hst, hc2, rfl⟩ := hs2
     have hst1 : st = st := rfl
     refine rn1 @ae.mc.eq_1 ?_
     refine aw.split (fun h2 => ?_) (fun h2 => ?_)
     · have h2' := of_decide_eq_true h2
       obtain ⟨j, hj⟩ : ∃ j : Nat, iy B w.Shocks.length c2 = j := ⟨(iy B w.Shocks.length c2).toNat, by have := (fb hB (n := w.Shocks.length) hc2.1).1; omega⟩
       have hj' : j < w.Shocks.length := by have := (fb hB (n := w.Shocks.length) hc2.1).2; omega
       have hr0 := bw al.csl hj'
       have hlr := lu (w := 5) al.csl w.Shocks
       refine rn1 @h2 ?_
       refine clT.tree (fun s2 => ∃ (c3 : Cur), c3.le (k + 6) ∧ s2 = ⟨(.ptr 0 0 :: .undef :: .undef :: .ptr 2 0 :: .ptr 3 0 :: .int .i64 1 :: .int .i64 st :: .int .i64 vc1 :: .ptr 4 0 :: (un 94 [])), [some (c3.cs B), some (rows al.cs w.Shocks), some (w.mc 1), some [.int .i64 0, .int .i64 0, .int .i64 0], some w.Shocks[j].cs], 2⟩) (.take 0 (.take 2 (.take 3 (.alt 1 (.alt 4 (.alt 5 (.alt 6 (.take 7 (.alt 8 (.alt 9 (.alt 10 .done .stop) .stop) (.alt 9 (.alt 8 (.alt 10 .done .stop) .stop) .stop))) (.alt 9 (.alt 6 (.take 7 (.alt 8 (.alt 10 .done .stop) .stop)) .stop) .stop)) (.alt 9 (.alt 5 (.alt 6 (.take 7 (.alt 8 (.alt 10 .done .stop) .stop)) .stop) .stop) .stop)) (.alt 9 (.alt 4 (.alt 5 (.alt 6 (.take 7 (.alt 8 (.alt 10 .done .stop) .stop)) .stop) .stop) .stop) .stop)) (.alt 4 (.alt 1 (.alt 5 (.alt 6 (.take 7 (.alt 8 (.alt 9 (.alt 10 .done .stop) .stop) (.alt 9 (.alt 8 (.alt 10 .done .stop) .stop) .stop))) (.alt 9 (.alt 6 (.take 7 (.alt 8 (.alt 10 .done .stop) .stop)) .stop) .stop)) (.alt 9 (.alt 5 (.alt 6 (.take 7 (.alt 8 (.alt 10 .done .stop) .stop)) .stop) .stop) .stop)) (.alt 5 (.alt 1 (.alt 6 (.take 7 (.alt 8 (.alt 9 (.alt 10 .done .stop) .stop) (.alt 9 (.alt 8 (.alt 10 .done .stop) .stop) .stop))) (.alt 9 (.alt 6 (.take 7 (.alt 8 (.alt 10 .done .stop) .stop)) .stop) .stop)) (.alt 6 (.alt 1 (.take 7 (.alt 8 (.alt 9 (.alt 10 .done .stop) .stop) (.alt 9 (.alt 8 (.alt 10 .done .stop) .stop) .stop))) (.alt 9 (.alt 1 (.take 7 (.alt 8 (.alt 10 .done .stop) .stop)) .stop) .stop)) (.alt 9 (.alt 1 (.alt 6 (.take 7 (.alt 8 (.alt 10 .done .stop) .stop)) .stop) (.alt 6 (.alt 1 (.take 7 (.alt 8 (.alt 10 .done .stop) .stop)) .stop) .stop)) .stop))) (.alt 9 (.alt 1 (.alt 5 (.alt 6 (.take 7 (.alt 8 (.alt 10 .done .stop) .stop)) .stop) .stop) (.alt 5 (.alt 1 (.alt 6 (.take 7 (.alt 8 (.alt 10 .done .stop) .stop)) .stop) (.alt 6 (.alt 1 (.take 7 (.alt 8 (.alt 10 .done .stop) .stop)) .stop) .stop)) .stop)) .stop))) (.alt 9 (.alt 1 (.alt 4 (.alt 5 (.alt 6 (.take 7 (.alt 8 (.alt 10 .done .stop) .stop)) .stop) .stop) .stop) (.alt 4 (.alt 1 (.alt 5 (.alt 6 (.take 7 (.alt 8 (.alt 10 .done .stop) .stop)) .stop) .stop) (.alt 5 (.alt 1 (.alt 6 (.take 7 (.alt 8 (.alt 10 .done .stop) .stop)) .stop) (.alt 6 (.alt 1 (.take 7 (.alt 8 (.alt 10 .done .stop) .stop)) .stop) .stop)) .stop)) .stop)) .stop)))))) (by kernel_rfl) (fun s2 hs2 => ?_) ?_
       · obtain ⟨c8, hc8, rfl⟩ := hs2
         have hnm : bu w.Shocks[j].Number := (hw.2.2.1.2 _ (List.getElem_mem hj')).1
         refine rn1 @al.cs.eq_1 ?_
         generalize w.Shocks[j].Number = nm at hnm ⊢
         generalize w.Shocks[j].State = sv
         refine eb hB hc8 (by omega) 2 (by omega) rfl (fun vc3 c3 hc3 => ?_)
         refine rn1 @Cur.ren ?_
         refine ax.split (fun h7 => ?_) (fun h7 => ?_) <;> refine rn2 @h7 @Cur.ren ?_
         · (first | refine ak.at (ef _ _ _) ⟨leA, leA, leA, trivial⟩ ?_ | refine ai.at (ef _ _ _) ⟨leA, leA, leA, trivial⟩ ?_)
           refine rn0 ?_
           refine aw.split (fun h8 => ?_) (fun h8 => ?_)
           · have hsv : sv = 0 ∨ sv = 1 ∨ sv = 2 ∨ sv = 3 := by simp [ep] at h8; omega
             rcases hsv with rfl | rfl | rfl | rfl
             all_goals
              refine rn1 @h8 ?_
              refine eb hB hc3 (by omega) 40 (by omega) rfl (fun vc4 c4 hc4 => ?_)
              refine rn1 @Cur.ren ?_
              refine aw.split (fun h5 => ?_) (fun h5 => ?_)
              · refine rn1 @h5 ?_
                refine an hB hc4 (by omega) [0, 9, 6] (by simp) (by simp) rfl rfl rfl (fun vc5 c5 pvc5 hc5 => ?_)
                refine rn1 @Cur.ren ?_
                refine an hB hc5 (by omega) [0, nm, 999] (by simp) (by simp) rfl rfl rfl (fun vc6 c6 pvc6 hc6 => ?_)
                refine rn1 @Cur.ren ?_
                refine an hB hc6 (by omega) [0, 1, -1] (by simp) (by simp) rfl rfl rfl (fun vc7 c7 pvc7 hc7 => ?_)
                refine rn1 @Cur.ren ?_
                exact fx rfl rfl (bm pvc5 (by simp [bu])) (bm pvc6 (by intro x hx; simp at hx; rcases hx with rfl | rfl | rfl <;> first | assumption | simp [bu])) (bm pvc7 (by simp [bu])) (cm hc7 (by omega))
              · refine rn1 @h5 ?_
                repeat' (first | (refine aw.split (fun h6 => ?_) (fun h6 => ?_) <;> refine rn2 @h6 @Cur.ren ?_) | (exact fx rfl rfl (by first | assumption | (simp [bu]; done) | exact bm pvc5 (by simp [bu])) (by first | assumption | (simp [bu]; done) | exact bm pvc5 (by simp [bu])) (by first | assumption | (simp [bu]; done) | exact bm pvc5 (by simp [bu])) (by first | exact cm hc5 (by omega) | exact cm hc4 (by omega))) | (refine an hB hc4 (by omega) [1, 100, 6000, 6001, 1000001, 0] (by simp) (by simp) rfl rfl rfl (fun vc5 c5 pvc5 hc5 => ?_); refine rn1 @Cur.ren ?_) | (refine an hB hc4 (by omega) [-20, 12, 30, 49, 50, 95, 96] (by simp) (by simp) rfl rfl rfl (fun vc5 c5 pvc5 hc5 => ?_); refine rn1 @Cur.ren ?_) | (refine an hB hc4 (by omega) [0, 1, -3, 10, -10, 11] (by simp) (by simp) rfl rfl rfl (fun vc5 c5 pvc5 hc5 => ?_); refine rn1 @Cur.ren ?_))
           · refine rn1 @h8 ?_
             refine eb hB hc3 (by omega) 40 (by omega) rfl (fun vc4 c4 hc4 => ?_)
             refine rn1 @Cur.ren ?_
             refine aw.split (fun h5 => ?_) (fun h5 => ?_)
             · refine rn1 @h5 ?_
               refine an hB hc4 (by omega) [0, 9, 6] (by simp) (by simp) rfl rfl rfl (fun vc5 c5 pvc5 hc5 => ?_)
               refine rn1 @Cur.ren ?_
               refine an hB hc5 (by omega) [0, nm, 999] (by simp) (by simp) rfl rfl rfl (fun vc6 c6 pvc6 hc6 => ?_)
               refine rn1 @Cur.ren ?_
               refine an hB hc6 (by omega) [0, 1, -1] (by simp) (by simp) rfl rfl rfl (fun vc7 c7 pvc7 hc7 => ?_)
               refine rn1 @Cur.ren ?_
               exact fx rfl rfl (bm pvc5 (by simp [bu])) (bm pvc6 (by intro x hx; simp at hx; rcases hx with rfl | rfl | rfl <;> first | assumption | simp [bu])) (bm pvc7 (by simp [bu])) (cm hc7 (by omega))
             · refine rn1 @h5 ?_
               repeat' (first | (refine aw.split (fun h6 => ?_) (fun h6 => ?_) <;> refine rn2 @h6 @Cur.ren ?_) | (exact fx rfl rfl (by first | assumption | (simp [bu]; done) | exact bm pvc5 (by simp [bu])) (by first | assumption | (simp [bu]; done) | exact bm pvc5 (by simp [bu])) (by first | assumption | (simp [bu]; done) | exact bm pvc5 (by simp [bu])) (by first | exact cm hc5 (by omega) | exact cm hc4 (by omega))) | (refine an hB hc4 (by omega) [1, 100, 6000, 6001, 1000001, 0] (by simp) (by simp) rfl rfl rfl (fun vc5 c5 pvc5 hc5 => ?_); refine rn1 @Cur.ren ?_) | (refine an hB hc4 (by omega) [-20, 12, 30, 49, 50, 95, 96] (by simp) (by simp) rfl rfl rfl (fun vc5 c5 pvc5 hc5 => ?_); refine rn1 @Cur.ren ?_) | (refine an hB hc4 (by omega) [0, 1, -3, 10, -10, 11] (by simp) (by simp) rfl rfl rfl (fun vc5 c5 pvc5 hc5 => ?_); refine rn1 @Cur.ren ?_))
         · skip
           refine eb hB hc3 (by omega) 40 (by omega) rfl (fun vc4 c4 hc4 => ?_)
           refine rn1 @Cur.ren ?_
           refine aw.split (fun h5 => ?_) (fun h5 => ?_)
           · refine rn1 @h5 ?_
             refine an hB hc4 (by omega) [0, 9, 6] (by simp) (by simp) rfl rfl rfl (fun vc5 c5 pvc5 hc5 => ?_)
             refine rn1 @Cur.ren ?_
             refine an hB hc5 (by omega) [0, nm, 999] (by simp) (by simp) rfl rfl rfl (fun vc6 c6 pvc6 hc6 => ?_)
             refine rn1 @Cur.ren ?_
             refine an hB hc6 (by omega) [0, 1, -1] (by simp) (by simp) rfl rfl rfl (fun vc7 c7 pvc7 hc7 => ?_)
             refine rn1 @Cur.ren ?_
             exact fx rfl rfl (bm pvc5 (by simp [bu])) (bm pvc6 (by intro x hx; simp at hx; rcases hx with rfl | rfl | rfl <;> first | assumption | simp [bu])) (bm pvc7 (by simp [bu])) (cm hc7 (by omega))
           · refine rn1 @h5 ?_
             repeat' (first | (refine aw.split (fun h6 => ?_) (fun h6 => ?_) <;> refine rn2 @h6 @Cur.ren ?_) | (exact fx rfl rfl (by first | assumption | (simp [bu]; done) | exact bm pvc5 (by simp [bu])) (by first | assumption | (simp [bu]; done) | exact bm pvc5 (by simp [bu])) (by first | assumption | (simp [bu]; done) | exact bm pvc5 (by simp [bu])) (by first | exact cm hc5 (by omega) | exact cm hc4 (by omega))) | (refine an hB hc4 (by omega) [1, 100, 6000, 6001, 1000001, 0] (by simp) (by simp) rfl rfl rfl (fun vc5 c5 pvc5 hc5 => ?_); refine rn1 @Cur.ren ?_) | (refine an hB hc4 (by omega) [-20, 12, 30, 49, 50, 95, 96] (by simp) (by simp) rfl rfl rfl (fun vc5 c5 pvc5 hc5 => ?_); refine rn1 @Cur.ren ?_) | (refine an hB hc4 (by omega) [0, 1, -3, 10, -10, 11] (by simp) (by simp) rfl rfl rfl (fun vc5 c5 pvc5 hc5 => ?_); refine rn1 @Cur.ren ?_))
       · have pk := j6 hB (hcb hc2 (by omega)) w.Shocks.length (by omega)
         have hq := dt (B := B) (n := w.Shocks.length) hc2
         rw [hj] at pk
         generalize fj B w.Shocks.length c2 = c3 at pk hq
         refine rn0 ?_
         repeat' (first | (refine ai.dp [0] false pk (by decide) ⟨leO, leO, trivial⟩ (dm rfl) (il B _ _) (.inl rfl) ?_; refine rn4 @hr0 @hlr @al.cs.eq_1 @Cur.ren ?_) | (refine And.intro ?_ ?_) | exact trivial)
         all_goals
          refine ⟨_, ⟨c3, cm hq (by omega), rfl⟩, ?_⟩
          first
          | (refine bo.cut 5 (by simp) (by simp) ?_ ?_
             · (simp [LeC, LeV, ren, bh, hst1]; done)
             · (simp [cb, ck, bh, Cur.ren, ren, ae.mc, ab, al.cs]; done))
          | (refine bo.pick [0, 1, 2, 3, 5] (by decide) (fun j hj => by rcases j with _ | _ | j <;> first | rfl | omega) ?_ ?_
             · (simp [LeG, LeC, LeV, ren, bb, posOf, hst1]; done)
             · (simp [az, bg, bb, posOf, Cur.ren, ren, ae.mc, ab, al.cs]; done))
     · refine rn1 @h2 ?_
       obtain ⟨c3, ec3⟩ : ∃ x, x = c2 := ⟨_, rfl⟩
       have hc3 : c3.le (k + 6) := by rw [ec3]; exact cm hc2 (by omega)
       rw [← ec3]
       refine eb hB hc3 (by omega) 40 (by omega) rfl (fun vc4 c4 hc4 => ?_)
       refine rn1 @Cur.ren ?_
       refine aw.split (fun h5 => ?_) (fun h5 => ?_)
       · refine rn1 @h5 ?_
         refine an hB hc4 (by omega) [0, 9, 6] (by simp) (by simp) rfl rfl rfl (fun vc5 c5 pvc5 hc5 => ?_)
         refine rn1 @Cur.ren ?_
         refine an hB hc5 (by omega) [0, 1, 999] (by simp) (by simp) rfl rfl rfl (fun vc6 c6 pvc6 hc6 => ?_)
         refine rn1 @Cur.ren ?_
         refine an hB hc6 (by omega) [0, 1, -1] (by simp) (by simp) rfl rfl rfl (fun vc7 c7 pvc7 hc7 => ?_)
         refine rn1 @Cur.ren ?_
         exact fx rfl rfl (bm pvc5 (by simp [bu])) (bm pvc6 (by intro x hx; simp at hx; rcases hx with rfl | rfl | rfl <;> first | assumption | simp [bu])) (bm pvc7 (by simp [bu])) (cm hc7 (by omega))
       · refine rn1 @h5 ?_
         repeat' (first | (refine aw.split (fun h6 => ?_) (fun h6 => ?_) <;> refine rn2 @h6 @Cur.ren ?_) | (exact fx rfl rfl (by first | assumption | (simp [bu]; done) | exact bm pvc5 (by simp [bu])) (by first | assumption | (simp [bu]; done) | exact bm pvc5 (by simp [bu])) (by first | assumption | (simp [bu]; done) | exact bm pvc5 (by simp [bu])) (by first | exact cm hc5 (by omega) | exact cm hc4 (by omega))) | (refine an hB hc4 (by omega) [1, 100, 6000, 6001, 1000001, 0] (by simp) (by simp) rfl rfl rfl (fun vc5 c5 pvc5 hc5 => ?_); refine rn1 @Cur.ren ?_) | (refine an hB hc4 (by omega) [-20, 12, 30, 49, 50, 95, 96] (by simp) (by simp) rfl rfl rfl (fun vc5 c5 pvc5 hc5 => ?_); refine rn1 @Cur.ren ?_) | (refine an hB hc4 (by omega) [0, 1, -3, 10, -10, 11] (by simp) (by simp) rfl rfl rfl (fun vc5 c5 pvc5 hc5 => ?_); refine rn1 @Cur.ren ?_))
   · have pk := j6 hB (hcb hc1 (by omega)) w.Posts.length (by omega)
     have hq := dt (B := B) (n := w.Posts.length) hc1
     rw [hi] at pk
     generalize fj B w.Posts.length c1 = c2 at pk hq
     have hok := hw.2.1.2 _ (List.getElem_mem hi')
     refine rn0 ?_
     repeat' (first | (refine ai.dp [0] false pk (by decide) ⟨leO, leO, trivial⟩ (dm rfl) (il B _ _) (.inl rfl) ?_; refine rn3 @hr0 @bc.cs.eq_1 @Cur.ren ?_) | (refine And.intro ?_ ?_) | exact trivial)
     all_goals
      refine ⟨_, ⟨w.Posts[i].Station, c2, hok.1, cm hq (by omega), rfl⟩, ?_⟩
      refine bo.cut (4) (by simp) (by simp) ?_ ?_
      · simp [LeC, LeV, ren, bh]
      · simp [cb, ck, bh, Cur.ren, ren, ae.mc, ab]
 · refine rn1 @h1 ?_
   obtain ⟨c2, ec2⟩ : ∃ x, x = c1 := ⟨_, rfl⟩
   rw [← ec2] at hc1 ⊢
   have hc2 : c2.le (k + 4) := cm hc1 (by omega)
   obtain ⟨st, hst1⟩ : ∃ x : Int, x = 1 := ⟨1, rfl⟩
   have hst : bu st := by rw [hst1]; simp [bu]
   refine aw.split (fun h2 => ?_) (fun h2 => ?_)
   · have h2' := of_decide_eq_true h2
     obtain ⟨j, hj⟩ : ∃ j : Nat, iy B w.Shocks.length c2 = j := ⟨(iy B w.Shocks.length c2).toNat, by have := (fb hB (n := w.Shocks.length) hc2.1).1; omega⟩
     have hj' : j < w.Shocks.length := by have := (fb hB (n := w.Shocks.length) hc2.1).2; omega
     have hr0 := bw al.csl hj'
     have hlr := lu (w := 5) al.csl w.Shocks
     refine rn1 @h2 ?_
     refine clT.tree (fun s2 => ∃ (c3 : Cur), c3.le (k + 6) ∧ s2 = ⟨(.ptr 0 0 :: .undef :: .undef :: .ptr 2 0 :: .ptr 3 0 :: .int .i64 1 :: .int .i64 st :: .int .i64 vc1 :: .ptr 4 0 :: (un 94 [])), [some (c3.cs B), some (rows al.cs w.Shocks), some (w.mc 1), some [.int .i64 0, .int .i64 0, .int .i64 0], some w.Shocks[j].cs], 2⟩) (.take 0 (.take 2 (.take 3 (.alt 1 (.alt 4 (.alt 5 (.alt 6 (.take 7 (.alt 8 (.alt 9 (.alt 10 .done .stop) .stop) (.alt 9 (.alt 8 (.alt 10 .done .stop) .stop) .stop))) (.alt 9 (.alt 6 (.take 7 (.alt 8 (.alt 10 .done .stop) .stop)) .stop) .stop)) (.alt 9 (.alt 5 (.alt 6 (.take 7 (.alt 8 (.alt 10 .done .stop) .stop)) .stop) .stop) .stop)) (.alt 9 (.alt 4 (.alt 5 (.alt 6 (.take 7 (.alt 8 (.alt 10 .done .stop) .stop)) .stop) .stop) .stop) .stop)) (.alt 4 (.alt 1 (.alt 5 (.alt 6 (.take 7 (.alt 8 (.alt 9 (.alt 10 .done .stop) .stop) (.alt 9 (.alt 8 (.alt 10 .done .stop) .stop) .stop))) (.alt 9 (.alt 6 (.take 7 (.alt 8 (.alt 10 .done .stop) .stop)) .stop) .stop)) (.alt 9 (.alt 5 (.alt 6 (.take 7 (.alt 8 (.alt 10 .done .stop) .stop)) .stop) .stop) .stop)) (.alt 5 (.alt 1 (.alt 6 (.take 7 (.alt 8 (.alt 9 (.alt 10 .done .stop) .stop) (.alt 9 (.alt 8 (.alt 10 .done .stop) .stop) .stop))) (.alt 9 (.alt 6 (.take 7 (.alt 8 (.alt 10 .done .stop) .stop)) .stop) .stop)) (.alt 6 (.alt 1 (.take 7 (.alt 8 (.alt 9 (.alt 10 .done .stop) .stop) (.alt 9 (.alt 8 (.alt 10 .done .stop) .stop) .stop))) (.alt 9 (.alt 1 (.take 7 (.alt 8 (.alt 10 .done .stop) .stop)) .stop) .stop)) (.alt 9 (.alt 1 (.alt 6 (.take 7 (.alt 8 (.alt 10 .done .stop) .stop)) .stop) (.alt 6 (.alt 1 (.take 7 (.alt 8 (.alt 10 .done .stop) .stop)) .stop) .stop)) .stop))) (.alt 9 (.alt 1 (.alt 5 (.alt 6 (.take 7 (.alt 8 (.alt 10 .done .stop) .stop)) .stop) .stop) (.alt 5 (.alt 1 (.alt 6 (.take 7 (.alt 8 (.alt 10 .done .stop) .stop)) .stop) (.alt 6 (.alt 1 (.take 7 (.alt 8 (.alt 10 .done .stop) .stop)) .stop) .stop)) .stop)) .stop))) (.alt 9 (.alt 1 (.alt 4 (.alt 5 (.alt 6 (.take 7 (.alt 8 (.alt 10 .done .stop) .stop)) .stop) .stop) .stop) (.alt 4 (.alt 1 (.alt 5 (.alt 6 (.take 7 (.alt 8 (.alt 10 .done .stop) .stop)) .stop) .stop) (.alt 5 (.alt 1 (.alt 6 (.take 7 (.alt 8 (.alt 10 .done .stop) .stop)) .stop) (.alt 6 (.alt 1 (.take 7 (.alt 8 (.alt 10 .done .stop) .stop)) .stop) .stop)) .stop)) .stop)) .stop)))))) (by kernel_rfl) (fun s2 hs2 => ?_) ?_
     · obtain ⟨c8, hc8, rfl⟩ := hs2
       have hnm : bu w.Shocks[j].Number := (hw.2.2.1.2 _ (List.getElem_mem hj')).1
       refine rn1 @al.cs.eq_1 ?_
       generalize w.Shocks[j].Number = nm at hnm ⊢
       generalize w.Shocks[j].State = sv
       refine eb hB hc8 (by omega) 2 (by omega) rfl (fun vc3 c3 hc3 => ?_)
       refine rn1 @Cur.ren ?_
       refine ax.split (fun h7 => ?_) (fun h7 => ?_) <;> refine rn2 @h7 @Cur.ren ?_
       · (first | refine ak.at (ef _ _ _) ⟨leA, leA, leA, trivial⟩ ?_ | refine ai.at (ef _ _ _) ⟨leA, leA, leA, trivial⟩ ?_)
         refine rn0 ?_
         refine aw.split (fun h8 => ?_) (fun h8 => ?_)
         · have hsv : sv = 0 ∨ sv = 1 ∨ sv = 2 ∨ sv = 3 := by simp [ep] at h8; omega
           rcases hsv with rfl | rfl | rfl | rfl
           all_goals
            refine rn1 @h8 ?_
            refine eb hB hc3 (by omega) 40 (by omega) rfl (fun vc4 c4 hc4 => ?_)
            refine rn1 @Cur.ren ?_
            refine aw.split (fun h5 => ?_) (fun h5 => ?_)
            · refine rn1 @h5 ?_
              refine an hB hc4 (by omega) [0, 9, 6] (by simp) (by simp) rfl rfl rfl (fun vc5 c5 pvc5 hc5 => ?_)
              refine rn1 @Cur.ren ?_
              refine an hB hc5 (by omega) [0, nm, 999] (by simp) (by simp) rfl rfl rfl (fun vc6 c6 pvc6 hc6 => ?_)
              refine rn1 @Cur.ren ?_
              refine an hB hc6 (by omega) [0, 1, -1] (by simp) (by simp) rfl rfl rfl (fun vc7 c7 pvc7 hc7 => ?_)
              refine rn1 @Cur.ren ?_
              exact fx rfl rfl (bm pvc5 (by simp [bu])) (bm pvc6 (by intro x hx; simp at hx; rcases hx with rfl | rfl | rfl <;> first | assumption | simp [bu])) (bm pvc7 (by simp [bu])) (cm hc7 (by omega))
            · refine rn1 @h5 ?_
              repeat' (first | (refine aw.split (fun h6 => ?_) (fun h6 => ?_) <;> refine rn2 @h6 @Cur.ren ?_) | (exact fx rfl rfl (by first | assumption | (simp [bu]; done) | exact bm pvc5 (by simp [bu])) (by first | assumption | (simp [bu]; done) | exact bm pvc5 (by simp [bu])) (by first | assumption | (simp [bu]; done) | exact bm pvc5 (by simp [bu])) (by first | exact cm hc5 (by omega) | exact cm hc4 (by omega))) | (refine an hB hc4 (by omega) [1, 100, 6000, 6001, 1000001, 0] (by simp) (by simp) rfl rfl rfl (fun vc5 c5 pvc5 hc5 => ?_); refine rn1 @Cur.ren ?_) | (refine an hB hc4 (by omega) [-20, 12, 30, 49, 50, 95, 96] (by simp) (by simp) rfl rfl rfl (fun vc5 c5 pvc5 hc5 => ?_); refine rn1 @Cur.ren ?_) | (refine an hB hc4 (by omega) [0, 1, -3, 10, -10, 11] (by simp) (by simp) rfl rfl rfl (fun vc5 c5 pvc5 hc5 => ?_); refine rn1 @Cur.ren ?_))
         · refine rn1 @h8 ?_
           refine eb hB hc3 (by omega) 40 (by omega) rfl (fun vc4 c4 hc4 => ?_)
           refine rn1 @Cur.ren ?_
           refine aw.split (fun h5 => ?_) (fun h5 => ?_)
           · refine rn1 @h5 ?_
             refine an hB hc4 (by omega) [0, 9, 6] (by simp) (by simp) rfl rfl rfl (fun vc5 c5 pvc5 hc5 => ?_)
             refine rn1 @Cur.ren ?_
             refine an hB hc5 (by omega) [0, nm, 999] (by simp) (by simp) rfl rfl rfl (fun vc6 c6 pvc6 hc6 => ?_)
             refine rn1 @Cur.ren ?_
             refine an hB hc6 (by omega) [0, 1, -1] (by simp) (by simp) rfl rfl rfl (fun vc7 c7 pvc7 hc7 => ?_)
             refine rn1 @Cur.ren ?_
             exact fx rfl rfl (bm pvc5 (by simp [bu])) (bm pvc6 (by intro x hx; simp at hx; rcases hx with rfl | rfl | rfl <;> first | assumption | simp [bu])) (bm pvc7 (by simp [bu])) (cm hc7 (by omega))
           · refine rn1 @h5 ?_
             repeat' (first | (refine aw.split (fun h6 => ?_) (fun h6 => ?_) <;> refine rn2 @h6 @Cur.ren ?_) | (exact fx rfl rfl (by first | assumption | (simp [bu]; done) | exact bm pvc5 (by simp [bu])) (by first | assumption | (simp [bu]; done) | exact bm pvc5 (by simp [bu])) (by first | assumption | (simp [bu]; done) | exact bm pvc5 (by simp [bu])) (by first | exact cm hc5 (by omega) | exact cm hc4 (by omega))) | (refine an hB hc4 (by omega) [1, 100, 6000, 6001, 1000001, 0] (by simp) (by simp) rfl rfl rfl (fun vc5 c5 pvc5 hc5 => ?_); refine rn1 @Cur.ren ?_) | (refine an hB hc4 (by omega) [-20, 12, 30, 49, 50, 95, 96] (by simp) (by simp) rfl rfl rfl (fun vc5 c5 pvc5 hc5 => ?_); refine rn1 @Cur.ren ?_) | (refine an hB hc4 (by omega) [0, 1, -3, 10, -10, 11] (by simp) (by simp) rfl rfl rfl (fun vc5 c5 pvc5 hc5 => ?_); refine rn1 @Cur.ren ?_))
       · skip
         refine eb hB hc3 (by omega) 40 (by omega) rfl (fun vc4 c4 hc4 => ?_)
         refine rn1 @Cur.ren ?_
         refine aw.split (fun h5 => ?_) (fun h5 => ?_)
         · refine rn1 @h5 ?_
           refine an hB hc4 (by omega) [0, 9, 6] (by simp) (by simp) rfl rfl rfl (fun vc5 c5 pvc5 hc5 => ?_)
           refine rn1 @Cur.ren ?_
           refine an hB hc5 (by omega) [0, nm, 999] (by simp) (by simp) rfl rfl rfl (fun vc6 c6 pvc6 hc6 => ?_)
           refine rn1 @Cur.ren ?_
           refine an hB hc6 (by omega) [0, 1, -1] (by simp) (by simp) rfl rfl rfl (fun vc7 c7 pvc7 hc7 => ?_)
           refine rn1 @Cur.ren ?_
           exact fx rfl rfl (bm pvc5 (by simp [bu])) (bm pvc6 (by intro x hx; simp at hx; rcases hx with rfl | rfl | rfl <;> first | assumption | simp [bu])) (bm pvc7 (by simp [bu])) (cm hc7 (by omega))
         · refine rn1 @h5 ?_
           repeat' (first | (refine aw.split (fun h6 => ?_) (fun h6 => ?_) <;> refine rn2 @h6 @Cur.ren ?_) | (exact fx rfl rfl (by first | assumption | (simp [bu]; done) | exact bm pvc5 (by simp [bu])) (by first | assumption | (simp [bu]; done) | exact bm pvc5 (by simp [bu])) (by first | assumption | (simp [bu]; done) | exact bm pvc5 (by simp [bu])) (by first | exact cm hc5 (by omega) | exact cm hc4 (by omega))) | (refine an hB hc4 (by omega) [1, 100, 6000, 6001, 1000001, 0] (by simp) (by simp) rfl rfl rfl (fun vc5 c5 pvc5 hc5 => ?_); refine rn1 @Cur.ren ?_) | (refine an hB hc4 (by omega) [-20, 12, 30, 49, 50, 95, 96] (by simp) (by simp) rfl rfl rfl (fun vc5 c5 pvc5 hc5 => ?_); refine rn1 @Cur.ren ?_) | (refine an hB hc4 (by omega) [0, 1, -3, 10, -10, 11] (by simp) (by simp) rfl rfl rfl (fun vc5 c5 pvc5 hc5 => ?_); refine rn1 @Cur.ren ?_))
     · have pk := j6 hB (hcb hc2 (by omega)) w.Shocks.length (by omega)
       have hq := dt (B := B) (n := w.Shocks.length) hc2
       rw [hj] at pk
       generalize fj B w.Shocks.length c2 = c3 at pk hq
       refine rn0 ?_
       repeat' (first | (refine ai.dp [0] false pk (by decide) ⟨leO, leO, trivial⟩ (dm rfl) (il B _ _) (.inl rfl) ?_; refine rn4 @hr0 @hlr @al.cs.eq_1 @Cur.ren ?_) | (refine And.intro ?_ ?_) | exact trivial)
       all_goals
        refine ⟨_, ⟨c3, cm hq (by omega), rfl⟩, ?_⟩
        first
        | (refine bo.cut 5 (by simp) (by simp) ?_ ?_
           · (simp [LeC, LeV, ren, bh, hst1]; done)
           · (simp [cb, ck, bh, Cur.ren, ren, ae.mc, ab, al.cs]; done))
        | (refine bo.pick [0, 1, 2, 3, 5] (by decide) (fun j hj => by rcases j with _ | _ | j <;> first | rfl | omega) ?_ ?_
           · (simp [LeG, LeC, LeV, ren, bb, posOf, hst1]; done)
           · (simp [az, bg, bb, posOf, Cur.ren, ren, ae.mc, ab, al.cs]; done))
   · refine rn1 @h2 ?_
     obtain ⟨c3, ec3⟩ : ∃ x, x = c2 := ⟨_, rfl⟩
     have hc3 : c3.le (k + 6) := by rw [ec3]; exact cm hc2 (by omega)
     rw [← ec3]
     refine eb hB hc3 (by omega) 40 (by omega) rfl (fun vc4 c4 hc4 => ?_)
     refine rn1 @Cur.ren ?_
     refine aw.split (fun h5 => ?_) (fun h5 => ?_)
     · refine rn1 @h5 ?_
       refine an hB hc4 (by omega) [0, 9, 6] (by simp) (by simp) rfl rfl rfl (fun vc5 c5 pvc5 hc5 => ?_)
       refine rn1 @Cur.ren ?_
       refine an hB hc5 (by omega) [0, 1, 999] (by simp) (by simp) rfl rfl rfl (fun vc6 c6 pvc6 hc6 => ?_)
       refine rn1 @Cur.ren ?_
       refine an hB hc6 (by omega) [0, 1, -1] (by simp) (by simp) rfl rfl rfl (fun vc7 c7 pvc7 hc7 => ?_)
       refine rn1 @Cur.ren ?_
       exact fx rfl rfl (bm pvc5 (by simp [bu])) (bm pvc6 (by intro x hx; simp at hx; rcases hx with rfl | rfl | rfl <;> first | assumption | simp [bu])) (bm pvc7 (by simp [bu])) (cm hc7 (by omega))
     · refine rn1 @h5 ?_
       repeat' (first | (refine aw.split (fun h6 => ?_) (fun h6 => ?_) <;> refine rn2 @h6 @Cur.ren ?_) | (exact fx rfl rfl (by first | assumption | (simp [bu]; done) | exact bm pvc5 (by simp [bu])) (by first | assumption | (simp [bu]; done) | exact bm pvc5 (by simp [bu])) (by first | assumption | (simp [bu]; done) | exact bm pvc5 (by simp [bu])) (by first | exact cm hc5 (by omega) | exact cm hc4 (by omega))) | (refine an hB hc4 (by omega) [1, 100, 6000, 6001, 1000001, 0] (by simp) (by simp) rfl rfl rfl (fun vc5 c5 pvc5 hc5 => ?_); refine rn1 @Cur.ren ?_) | (refine an hB hc4 (by omega) [-20, 12, 30, 49, 50, 95, 96] (by simp) (by simp) rfl rfl rfl (fun vc5 c5 pvc5 hc5 => ?_); refine rn1 @Cur.ren ?_) | (refine an hB hc4 (by omega) [0, 1, -3, 10, -10, 11] (by simp) (by simp) rfl rfl rfl (fun vc5 c5 pvc5 hc5 => ?_); refine rn1 @Cur.ren ?_))
end Go.Proofs
end
section
set_option maxRecDepth 100000
set_option maxHeartbeats 2000000
namespace Go.Proofs
open Go.Lv
theorem l6 {x y : V} (h : LeV x y := by first | exact leA | exact ae.leM (r := w) (i := 3) rfl) : LeV x y := h
def aq5 (B : List Int) (k : Int) (r : V) (hout : Hp) : Prop := ∃ (w : ae) (c : Cur), (w.ok ∧ w.sm) ∧ w.Posts.length ≤ 100 ∧ w.Shocks.length ≤ 100 ∧ c.le k ∧ r = w.v ∧ hout = [some (c.cs B)]
theorem ae.leM {h : Hp} {r : ae} {i : Nat} (h1 : h[i]? = some (some (rows al.cs r.Shocks))) : LeV (ren (fh h 3) 3 (.agg (r.mc i))) r.v := by
 refine .inl ?_
 simp only [ae.mc, ae.v, ren, List.map_cons, List.map_nil, fh, h1, ab, List.drop_zero, db]
theorem aog {w w' : ae} {k n v : Int} (h : fi w k n v = some w') : wB w' = true := by
 unfold fi e7 at h
 split at h
 · rename_i hb
   simp only [Option.some.injEq] at h
   subst h
   simp only [Bool.and_eq_true] at hb
   exact hb.2.2
 · cases h
theorem ajf {w : ae} (h : wB w = true) : w.ok ∧ w.Posts.length ≤ 8 ∧ w.Shocks.length ≤ 6 := by
 have W := ew h
 have hn := W.now
 have hx := W.next
 have ha := W.arch
 refine ⟨⟨⟨by omega, by omega⟩, ⟨by have := W.plen; omega, fun p hp => ?_⟩, ⟨by have := W.slen; omega, fun x hxm => ?_⟩, ⟨by omega, by omega⟩, ⟨by omega, by omega⟩⟩, W.plen, W.slen⟩
 · have := mn.1 (W.posts p hp)
   exact ⟨⟨by omega, by omega⟩, ⟨by omega, by omega⟩⟩
 · have := gk.1 (W.shocks x hxm)
   exact ⟨⟨by omega, by omega⟩, ⟨by omega, by omega⟩, ⟨by omega, by omega⟩, ⟨by omega, by omega⟩, ⟨by omega, by omega⟩⟩
theorem atm {w : ae} (h : wB w = true) : w.sm := by
 have W := ew h
 refine ⟨fun p hp => ?_, fun x hx => ?_⟩
 · have := mn.1 (W.posts p hp)
   exact ⟨by omega, by omega⟩
 · have := gk.1 (W.shocks x hx)
   have := W.next
   exact ⟨by omega, by omega⟩
theorem ae.avx {w : ae} {x : al} {a b c : Int} (h : w.sm) (hx : sR x.Number) : ae.sm ⟨a, w.Posts, w.Shocks ++ [x], b, c⟩ := by
 refine ⟨h.1, fun y hy => ?_⟩
 rcases List.mem_append.1 hy with g | g
 · exact h.2 y g
 · rw [List.mem_singleton.1 g]; exact hx
def getT : List (Nat × St) → Nat → Option St
 | [], _ => none
 | p :: l, m => if Nat.beq p.1 m = true then some p.2 else getT l m
def gA (s0 : St) (l : List (Nat × St)) (m : Nat) (s : St) : Prop := cond (Nat.beq m 0) (some s0 = some s) (getT l m = some s)
theorem gpk {a b c : Prop} (f1 : a) (f2 : b) (f3 : c) {A : St → Prop} {t t2 : List V} {h h2 : Hp} {k : Nat} (sel : List Nat) (hA : A ⟨t2, h2, k⟩) (hn : sel.Nodup := by decide) (hk : ∀ j, j < k → sel[j]? = some j := by decide)
 (ht : a → b → c → LeG (ren (bb sel h true) 3) t t2 := by (intro f1 f2 f3; first | rfl | simp [LeG, LeC, LeV, ren, bb, posOf, f1, f2, f3]))
 (hh : a → b → c → az sel h true = h2 := by (intro f1 f2 f3; first | rfl | (simp [az, bg, bb, posOf, Cur.ren, ren, ab, rows, IntS.cs, f1, f2, f3]; done) | (simp [az, bg, bb, posOf, Cur.ren, ren, ab, f1, f2, f3]; done) | (simp [az, bg, bb, posOf, Cur.ren, ren, ab, f1, f2, f3] <;> rfl))) : ∃ s2, A s2 ∧ bo ⟨t, h, k⟩ s2 := ⟨_, hA, bo.pk sel (ht f1 f2 f3) (hh f1 f2 f3) hn hk⟩
def ed (B : List Int) (c : Cur) (l : List V) (e : Hp) : St := ⟨.ptr 0 0 :: (un 1 (.ptr 1 0 :: .ptr 2 0 :: (un 42 (l)))), some (c.cs B) :: some [.int .i64 0, .nilsl, .nilsl, .int .i64 0, .int .i64 0] :: some [.int .i64 0, .nilsl, .nilsl, .int .i64 0, .int .i64 0] :: e, 1⟩
@[go_sem] theorem a3w (B : List Int) (c : Cur) (l : List V) (e : Hp) : ed B c l e = ⟨.ptr 0 0 :: (un 1 (.ptr 1 0 :: .ptr 2 0 :: (un 42 (l)))), some (c.cs B) :: some [.int .i64 0, .nilsl, .nilsl, .int .i64 0, .int .i64 0] :: some [.int .i64 0, .nilsl, .nilsl, .int .i64 0, .int .i64 0] :: e, 1⟩ := rfl
def tabZ (B : List Int) (c5 c6 c7 c8 c9 : Cur) (v6 v7 v8 v9 : Int) : List (Nat × St) :=
 [(0, ed B c5 (un 18 []) []), (1, ed B c5 (.ptr 2 2 :: (un 17 [])) []), (5, ed B c5 (.ptr 2 2 :: (un 1 (.ptr 0 0 :: (un 15 [])))) []), (37, ed B c5 (.ptr 2 2 :: (un 1 (.ptr 0 0 :: (un 2 (.ptr 0 0 :: (un 12 [])))))) []), (165, ed B c5 (.ptr 2 2 :: (un 1 (.ptr 0 0 :: (un 2 (.ptr 0 0 :: (un 1 (.ptr 0 0 :: (un 10 [])))))))) []), (1189, ed B c5 (.ptr 2 2 :: (un 1 (.ptr 0 0 :: (un 2 (.ptr 0 0 :: (un 1 (.ptr 0 0 :: (un 2 (.ptr 0 0 :: (un 7 [])))))))))) []), (1191, ed B c5 (un 1 (.nilsl :: .ptr 0 0 :: (un 2 (.ptr 0 0 :: (un 1 (.ptr 0 0 :: (un 2 (.ptr 0 0 :: (un 7 []))))))))) []), (1197, ed B c5 (.ptr 2 2 :: (un 1 (.ptr 0 0 :: .osl 3 0 2 1 :: (un 1 (.ptr 0 0 :: (un 1 (.ptr 0 0 :: (un 2 (.ptr 0 0 :: (un 7 [])))))))))) [some (rows IntS.cs [0, 1])]), (1199, ed B c5 (un 1 (.nilsl :: .ptr 0 0 :: .osl 3 0 2 1 :: (un 1 (.ptr 0 0 :: (un 1 (.ptr 0 0 :: (un 2 (.ptr 0 0 :: (un 7 []))))))))) [some (rows IntS.cs [0, 1])]), (1213, ed B c6 (.ptr 2 2 :: (un 3 (.int .i64 v6 :: .ptr 0 0 :: (un 1 (.ptr 0 0 :: (un 2 (.ptr 0 0 :: (un 7 [])))))))) []), (1215, ed B c6 (un 1 (.nilsl :: (un 2 (.int .i64 v6 :: .ptr 0 0 :: (un 1 (.ptr 0 0 :: (un 2 (.ptr 0 0 :: (un 7 []))))))))) []), (1277, ed B c7 (.ptr 2 2 :: (un 3 (.int .i64 v6 :: (un 1 (.int .i64 v7 :: .ptr 0 0 :: (un 2 (.ptr 0 0 :: (un 7 [])))))))) []), (1279, ed B c7 (un 1 (.nilsl :: (un 2 (.int .i64 v6 :: (un 1 (.int .i64 v7 :: .ptr 0 0 :: (un 2 (.ptr 0 0 :: (un 7 []))))))))) []), (1445, ed B c5 (.ptr 2 2 :: (un 1 (.ptr 0 0 :: (un 2 (.ptr 0 0 :: (un 1 (.ptr 0 0 :: .osl 3 0 2 1 :: (un 1 (.ptr 0 0 :: (un 7 [])))))))))) [some (rows IntS.cs [0, 9])]), (1447, ed B c5 (un 1 (.nilsl :: .ptr 0 0 :: (un 2 (.ptr 0 0 :: (un 1 (.ptr 0 0 :: .osl 3 0 2 1 :: (un 1 (.ptr 0 0 :: (un 7 []))))))))) [some (rows IntS.cs [0, 9])]), (1453, ed B c5 (.ptr 2 2 :: (un 1 (.ptr 0 0 :: .osl 3 0 2 1 :: (un 1 (.ptr 0 0 :: (un 1 (.ptr 0 0 :: .osl 4 0 2 1 :: (un 1 (.ptr 0 0 :: (un 7 [])))))))))) [some (rows IntS.cs [0, 1]), some (rows IntS.cs [0, 9])]), (1455, ed B c5 (un 1 (.nilsl :: .ptr 0 0 :: .osl 3 0 2 1 :: (un 1 (.ptr 0 0 :: (un 1 (.ptr 0 0 :: .osl 4 0 2 1 :: (un 1 (.ptr 0 0 :: (un 7 []))))))))) [some (rows IntS.cs [0, 1]), some (rows IntS.cs [0, 9])]), (1469, ed B c6 (.ptr 2 2 :: (un 3 (.int .i64 v6 :: .ptr 0 0 :: (un 1 (.ptr 0 0 :: .osl 3 0 2 1 :: (un 1 (.ptr 0 0 :: (un 7 [])))))))) [some (rows IntS.cs [0, 9])]), (1471, ed B c6 (un 1 (.nilsl :: (un 2 (.int .i64 v6 :: .ptr 0 0 :: (un 1 (.ptr 0 0 :: .osl 3 0 2 1 :: (un 1 (.ptr 0 0 :: (un 7 []))))))))) [some (rows IntS.cs [0, 9])]), (1533, ed B c7 (.ptr 2 2 :: (un 3 (.int .i64 v6 :: (un 1 (.int .i64 v7 :: .ptr 0 0 :: .osl 3 0 2 1 :: (un 1 (.ptr 0 0 :: (un 7 [])))))))) [some (rows IntS.cs [0, 9])]), (1535, ed B c7 (un 1 (.nilsl :: (un 2 (.int .i64 v6 :: (un 1 (.int .i64 v7 :: .ptr 0 0 :: .osl 3 0 2 1 :: (un 1 (.ptr 0 0 :: (un 7 []))))))))) [some (rows IntS.cs [0, 9])]), (2045, ed B c8 (.ptr 2 2 :: (un 3 (.int .i64 v6 :: (un 1 (.int .i64 v7 :: (un 2 (.int .i64 v8 :: .ptr 0 0 :: (un 7 [])))))))) []), (2047, ed B c8 (un 1 (.nilsl :: (un 2 (.int .i64 v6 :: (un 1 (.int .i64 v7 :: (un 2 (.int .i64 v8 :: .ptr 0 0 :: (un 7 []))))))))) []), (3237, ed B c5 (.ptr 2 2 :: (un 1 (.ptr 0 0 :: (un 2 (.ptr 0 0 :: (un 1 (.ptr 0 0 :: (un 2 (.ptr 0 0 :: .osl 3 0 2 1 :: (un 6 [])))))))))) [some (rows IntS.cs [0, 96])]), (3239, ed B c5 (un 1 (.nilsl :: .ptr 0 0 :: (un 2 (.ptr 0 0 :: (un 1 (.ptr 0 0 :: (un 2 (.ptr 0 0 :: .osl 3 0 2 1 :: (un 6 []))))))))) [some (rows IntS.cs [0, 96])]), (3245, ed B c5 (.ptr 2 2 :: (un 1 (.ptr 0 0 :: .osl 3 0 2 1 :: (un 1 (.ptr 0 0 :: (un 1 (.ptr 0 0 :: (un 2 (.ptr 0 0 :: .osl 4 0 2 1 :: (un 6 [])))))))))) [some (rows IntS.cs [0, 1]), some (rows IntS.cs [0, 96])]), (3247, ed B c5 (un 1 (.nilsl :: .ptr 0 0 :: .osl 3 0 2 1 :: (un 1 (.ptr 0 0 :: (un 1 (.ptr 0 0 :: (un 2 (.ptr 0 0 :: .osl 4 0 2 1 :: (un 6 []))))))))) [some (rows IntS.cs [0, 1]), some (rows IntS.cs [0, 96])]), (3261, ed B c6 (.ptr 2 2 :: (un 3 (.int .i64 v6 :: .ptr 0 0 :: (un 1 (.ptr 0 0 :: (un 2 (.ptr 0 0 :: .osl 3 0 2 1 :: (un 6 [])))))))) [some (rows IntS.cs [0, 96])]), (3263, ed B c6 (un 1 (.nilsl :: (un 2 (.int .i64 v6 :: .ptr 0 0 :: (un 1 (.ptr 0 0 :: (un 2 (.ptr 0 0 :: .osl 3 0 2 1 :: (un 6 []))))))))) [some (rows IntS.cs [0, 96])]), (3325, ed B c7 (.ptr 2 2 :: (un 3 (.int .i64 v6 :: (un 1 (.int .i64 v7 :: .ptr 0 0 :: (un 2 (.ptr 0 0 :: .osl 3 0 2 1 :: (un 6 [])))))))) [some (rows IntS.cs [0, 96])]), (3327, ed B c7 (un 1 (.nilsl :: (un 2 (.int .i64 v6 :: (un 1 (.int .i64 v7 :: .ptr 0 0 :: (un 2 (.ptr 0 0 :: .osl 3 0 2 1 :: (un 6 []))))))))) [some (rows IntS.cs [0, 96])]), (3493, ed B c5 (.ptr 2 2 :: (un 1 (.ptr 0 0 :: (un 2 (.ptr 0 0 :: (un 1 (.ptr 0 0 :: .osl 3 0 2 1 :: (un 1 (.ptr 0 0 :: .osl 4 0 2 1 :: (un 6 [])))))))))) [some (rows IntS.cs [0, 9]), some (rows IntS.cs [0, 96])]), (3495, ed B c5 (un 1 (.nilsl :: .ptr 0 0 :: (un 2 (.ptr 0 0 :: (un 1 (.ptr 0 0 :: .osl 3 0 2 1 :: (un 1 (.ptr 0 0 :: .osl 4 0 2 1 :: (un 6 []))))))))) [some (rows IntS.cs [0, 9]), some (rows IntS.cs [0, 96])]), (3501, ed B c5 (.ptr 2 2 :: (un 1 (.ptr 0 0 :: .osl 3 0 2 1 :: (un 1 (.ptr 0 0 :: (un 1 (.ptr 0 0 :: .osl 4 0 2 1 :: (un 1 (.ptr 0 0 :: .osl 5 0 2 1 :: (un 6 [])))))))))) [some (rows IntS.cs [0, 1]), some (rows IntS.cs [0, 9]), some (rows IntS.cs [0, 96])]), (3503, ed B c5 (un 1 (.nilsl :: .ptr 0 0 :: .osl 3 0 2 1 :: (un 1 (.ptr 0 0 :: (un 1 (.ptr 0 0 :: .osl 4 0 2 1 :: (un 1 (.ptr 0 0 :: .osl 5 0 2 1 :: (un 6 []))))))))) [some (rows IntS.cs [0, 1]), some (rows IntS.cs [0, 9]), some (rows IntS.cs [0, 96])]), (3517, ed B c6 (.ptr 2 2 :: (un 3 (.int .i64 v6 :: .ptr 0 0 :: (un 1 (.ptr 0 0 :: .osl 3 0 2 1 :: (un 1 (.ptr 0 0 :: .osl 4 0 2 1 :: (un 6 [])))))))) [some (rows IntS.cs [0, 9]), some (rows IntS.cs [0, 96])]), (3519, ed B c6 (un 1 (.nilsl :: (un 2 (.int .i64 v6 :: .ptr 0 0 :: (un 1 (.ptr 0 0 :: .osl 3 0 2 1 :: (un 1 (.ptr 0 0 :: .osl 4 0 2 1 :: (un 6 []))))))))) [some (rows IntS.cs [0, 9]), some (rows IntS.cs [0, 96])]), (3581, ed B c7 (.ptr 2 2 :: (un 3 (.int .i64 v6 :: (un 1 (.int .i64 v7 :: .ptr 0 0 :: .osl 3 0 2 1 :: (un 1 (.ptr 0 0 :: .osl 4 0 2 1 :: (un 6 [])))))))) [some (rows IntS.cs [0, 9]), some (rows IntS.cs [0, 96])]), (3583, ed B c7 (un 1 (.nilsl :: (un 2 (.int .i64 v6 :: (un 1 (.int .i64 v7 :: .ptr 0 0 :: .osl 3 0 2 1 :: (un 1 (.ptr 0 0 :: .osl 4 0 2 1 :: (un 6 []))))))))) [some (rows IntS.cs [0, 9]), some (rows IntS.cs [0, 96])]), (4093, ed B c8 (.ptr 2 2 :: (un 3 (.int .i64 v6 :: (un 1 (.int .i64 v7 :: (un 2 (.int .i64 v8 :: .ptr 0 0 :: .osl 3 0 2 1 :: (un 6 [])))))))) [some (rows IntS.cs [0, 96])]), (4095, ed B c8 (un 1 (.nilsl :: (un 2 (.int .i64 v6 :: (un 1 (.int .i64 v7 :: (un 2 (.int .i64 v8 :: .ptr 0 0 :: .osl 3 0 2 1 :: (un 6 []))))))))) [some (rows IntS.cs [0, 96])]), (8189, ed B c9 (.ptr 2 2 :: (un 3 (.int .i64 v6 :: (un 1 (.int .i64 v7 :: (un 2 (.int .i64 v8 :: (un 2 (.int .i64 v9 :: (un 5 [])))))))))) []), (8191, ed B c9 (un 1 (.nilsl :: (un 2 (.int .i64 v6 :: (un 1 (.int .i64 v7 :: (un 2 (.int .i64 v8 :: (un 2 (.int .i64 v9 :: (un 5 []))))))))))) []), (16381, ed B c9 (.ptr 2 2 :: (un 12 (.agg [.int .i64 v6, .int .i64 v7, .int .i64 v8, .int .i64 v9, .int .i64 0] :: (un 4 [])))) []), (16383, ed B c9 (un 1 (.nilsl :: (un 11 (.agg [.int .i64 v6, .int .i64 v7, .int .i64 v8, .int .i64 v9, .int .i64 0] :: (un 4 []))))) []), (32765, ed B c9 (.ptr 2 2 :: (un 13 (.osl 3 0 1 5 :: (un 3 [])))) [some [.int .i64 v6, .int .i64 v7, .int .i64 v8, .int .i64 v9, .int .i64 0]]), (32767, ed B c9 (un 1 (.nilsl :: (un 12 (.osl 3 0 1 5 :: (un 3 []))))) [some [.int .i64 v6, .int .i64 v7, .int .i64 v8, .int .i64 v9, .int .i64 0]]), (65535, ed B c9 (un 15 (.osl 3 0 1 5 :: (un 2 []))) [some [.int .i64 v6, .int .i64 v7, .int .i64 v8, .int .i64 v9, .int .i64 0]]), (131071, ed B c9 (un 15 (.osl 3 0 1 5 :: .ptr 2 2 :: (un 1 []))) [some [.int .i64 v6, .int .i64 v7, .int .i64 v8, .int .i64 v9, .int .i64 0]]), (262143, ⟨(.ptr 0 0 :: .undef :: .ptr 1 0 :: .ptr 2 0 :: (un 60 [])), [some (c9.cs B), some [.int .i64 0, .nilsl, .nilsl, .int .i64 0, .int .i64 0], some [.int .i64 0, .nilsl, .osl 3 0 1 5, .int .i64 0, .int .i64 0], some [.int .i64 v6, .int .i64 v7, .int .i64 v8, .int .i64 v9, .int .i64 0]], 1⟩)]
def eh (B : List Int) (w : ae) (c : Cur) (l : List V) (e : Hp) : St := ⟨.ptr 0 0 :: (un 1 (.ptr 1 0 :: .ptr 2 0 :: (un 42 (l)))), some (c.cs B) :: some [.int .i64 0, .nilsl, .nilsl, .int .i64 0, .int .i64 0] :: some (w.mc 3) :: some (rows al.cs w.Shocks) :: e, 1⟩
@[go_sem] theorem a5c (B : List Int) (w : ae) (c : Cur) (l : List V) (e : Hp) : eh B w c l e = ⟨.ptr 0 0 :: (un 1 (.ptr 1 0 :: .ptr 2 0 :: (un 42 (l)))), some (c.cs B) :: some [.int .i64 0, .nilsl, .nilsl, .int .i64 0, .int .i64 0] :: some (w.mc 3) :: some (rows al.cs w.Shocks) :: e, 1⟩ := rfl
def tabM (B : List Int) (w : ae) (c5 c6 c7 c8 c9 : Cur) (v6 v7 v8 v9 : Int) : List (Nat × St) :=
 [(0, eh B w c5 (un 18 []) []), (1, eh B w c5 (.ptr 2 2 :: (un 17 [])) []), (5, eh B w c5 (.ptr 2 2 :: (un 1 (.ptr 0 0 :: (un 15 [])))) []), (37, eh B w c5 (.ptr 2 2 :: (un 1 (.ptr 0 0 :: (un 2 (.ptr 0 0 :: (un 12 [])))))) []), (165, eh B w c5 (.ptr 2 2 :: (un 1 (.ptr 0 0 :: (un 2 (.ptr 0 0 :: (un 1 (.ptr 0 0 :: (un 10 [])))))))) []), (1189, eh B w c5 (.ptr 2 2 :: (un 1 (.ptr 0 0 :: (un 2 (.ptr 0 0 :: (un 1 (.ptr 0 0 :: (un 2 (.ptr 0 0 :: (un 7 [])))))))))) []), (1191, eh B w c5 (un 1 (.osl 3 0 w.Shocks.length 5 :: .ptr 0 0 :: (un 2 (.ptr 0 0 :: (un 1 (.ptr 0 0 :: (un 2 (.ptr 0 0 :: (un 7 []))))))))) []), (1197, eh B w c5 (.ptr 2 2 :: (un 1 (.ptr 0 0 :: .osl 4 0 2 1 :: (un 1 (.ptr 0 0 :: (un 1 (.ptr 0 0 :: (un 2 (.ptr 0 0 :: (un 7 [])))))))))) [some (rows IntS.cs [0, 1])]), (1199, eh B w c5 (un 1 (.osl 3 0 w.Shocks.length 5 :: .ptr 0 0 :: .osl 4 0 2 1 :: (un 1 (.ptr 0 0 :: (un 1 (.ptr 0 0 :: (un 2 (.ptr 0 0 :: (un 7 []))))))))) [some (rows IntS.cs [0, 1])]), (1213, eh B w c6 (.ptr 2 2 :: (un 3 (.int .i64 v6 :: .ptr 0 0 :: (un 1 (.ptr 0 0 :: (un 2 (.ptr 0 0 :: (un 7 [])))))))) []), (1215, eh B w c6 (un 1 (.osl 3 0 w.Shocks.length 5 :: (un 2 (.int .i64 v6 :: .ptr 0 0 :: (un 1 (.ptr 0 0 :: (un 2 (.ptr 0 0 :: (un 7 []))))))))) []), (1277, eh B w c7 (.ptr 2 2 :: (un 3 (.int .i64 v6 :: (un 1 (.int .i64 v7 :: .ptr 0 0 :: (un 2 (.ptr 0 0 :: (un 7 [])))))))) []), (1279, eh B w c7 (un 1 (.osl 3 0 w.Shocks.length 5 :: (un 2 (.int .i64 v6 :: (un 1 (.int .i64 v7 :: .ptr 0 0 :: (un 2 (.ptr 0 0 :: (un 7 []))))))))) []), (1445, eh B w c5 (.ptr 2 2 :: (un 1 (.ptr 0 0 :: (un 2 (.ptr 0 0 :: (un 1 (.ptr 0 0 :: .osl 4 0 2 1 :: (un 1 (.ptr 0 0 :: (un 7 [])))))))))) [some (rows IntS.cs [0, 9])]), (1447, eh B w c5 (un 1 (.osl 3 0 w.Shocks.length 5 :: .ptr 0 0 :: (un 2 (.ptr 0 0 :: (un 1 (.ptr 0 0 :: .osl 4 0 2 1 :: (un 1 (.ptr 0 0 :: (un 7 []))))))))) [some (rows IntS.cs [0, 9])]), (1453, eh B w c5 (.ptr 2 2 :: (un 1 (.ptr 0 0 :: .osl 4 0 2 1 :: (un 1 (.ptr 0 0 :: (un 1 (.ptr 0 0 :: .osl 5 0 2 1 :: (un 1 (.ptr 0 0 :: (un 7 [])))))))))) [some (rows IntS.cs [0, 1]), some (rows IntS.cs [0, 9])]), (1455, eh B w c5 (un 1 (.osl 3 0 w.Shocks.length 5 :: .ptr 0 0 :: .osl 4 0 2 1 :: (un 1 (.ptr 0 0 :: (un 1 (.ptr 0 0 :: .osl 5 0 2 1 :: (un 1 (.ptr 0 0 :: (un 7 []))))))))) [some (rows IntS.cs [0, 1]), some (rows IntS.cs [0, 9])]), (1469, eh B w c6 (.ptr 2 2 :: (un 3 (.int .i64 v6 :: .ptr 0 0 :: (un 1 (.ptr 0 0 :: .osl 4 0 2 1 :: (un 1 (.ptr 0 0 :: (un 7 [])))))))) [some (rows IntS.cs [0, 9])]), (1471, eh B w c6 (un 1 (.osl 3 0 w.Shocks.length 5 :: (un 2 (.int .i64 v6 :: .ptr 0 0 :: (un 1 (.ptr 0 0 :: .osl 4 0 2 1 :: (un 1 (.ptr 0 0 :: (un 7 []))))))))) [some (rows IntS.cs [0, 9])]), (1533, eh B w c7 (.ptr 2 2 :: (un 3 (.int .i64 v6 :: (un 1 (.int .i64 v7 :: .ptr 0 0 :: .osl 4 0 2 1 :: (un 1 (.ptr 0 0 :: (un 7 [])))))))) [some (rows IntS.cs [0, 9])]), (1535, eh B w c7 (un 1 (.osl 3 0 w.Shocks.length 5 :: (un 2 (.int .i64 v6 :: (un 1 (.int .i64 v7 :: .ptr 0 0 :: .osl 4 0 2 1 :: (un 1 (.ptr 0 0 :: (un 7 []))))))))) [some (rows IntS.cs [0, 9])]), (2045, eh B w c8 (.ptr 2 2 :: (un 3 (.int .i64 v6 :: (un 1 (.int .i64 v7 :: (un 2 (.int .i64 v8 :: .ptr 0 0 :: (un 7 [])))))))) []), (2047, eh B w c8 (un 1 (.osl 3 0 w.Shocks.length 5 :: (un 2 (.int .i64 v6 :: (un 1 (.int .i64 v7 :: (un 2 (.int .i64 v8 :: .ptr 0 0 :: (un 7 []))))))))) []), (3237, eh B w c5 (.ptr 2 2 :: (un 1 (.ptr 0 0 :: (un 2 (.ptr 0 0 :: (un 1 (.ptr 0 0 :: (un 2 (.ptr 0 0 :: .osl 4 0 2 1 :: (un 6 [])))))))))) [some (rows IntS.cs [0, 96])]), (3239, eh B w c5 (un 1 (.osl 3 0 w.Shocks.length 5 :: .ptr 0 0 :: (un 2 (.ptr 0 0 :: (un 1 (.ptr 0 0 :: (un 2 (.ptr 0 0 :: .osl 4 0 2 1 :: (un 6 []))))))))) [some (rows IntS.cs [0, 96])]), (3245, eh B w c5 (.ptr 2 2 :: (un 1 (.ptr 0 0 :: .osl 4 0 2 1 :: (un 1 (.ptr 0 0 :: (un 1 (.ptr 0 0 :: (un 2 (.ptr 0 0 :: .osl 5 0 2 1 :: (un 6 [])))))))))) [some (rows IntS.cs [0, 1]), some (rows IntS.cs [0, 96])]), (3247, eh B w c5 (un 1 (.osl 3 0 w.Shocks.length 5 :: .ptr 0 0 :: .osl 4 0 2 1 :: (un 1 (.ptr 0 0 :: (un 1 (.ptr 0 0 :: (un 2 (.ptr 0 0 :: .osl 5 0 2 1 :: (un 6 []))))))))) [some (rows IntS.cs [0, 1]), some (rows IntS.cs [0, 96])]), (3261, eh B w c6 (.ptr 2 2 :: (un 3 (.int .i64 v6 :: .ptr 0 0 :: (un 1 (.ptr 0 0 :: (un 2 (.ptr 0 0 :: .osl 4 0 2 1 :: (un 6 [])))))))) [some (rows IntS.cs [0, 96])]), (3263, eh B w c6 (un 1 (.osl 3 0 w.Shocks.length 5 :: (un 2 (.int .i64 v6 :: .ptr 0 0 :: (un 1 (.ptr 0 0 :: (un 2 (.ptr 0 0 :: .osl 4 0 2 1 :: (un 6 []))))))))) [some (rows IntS.cs [0, 96])]), (3325, eh B w c7 (.ptr 2 2 :: (un 3 (.int .i64 v6 :: (un 1 (.int .i64 v7 :: .ptr 0 0 :: (un 2 (.ptr 0 0 :: .osl 4 0 2 1 :: (un 6 [])))))))) [some (rows IntS.cs [0, 96])]), (3327, eh B w c7 (un 1 (.osl 3 0 w.Shocks.length 5 :: (un 2 (.int .i64 v6 :: (un 1 (.int .i64 v7 :: .ptr 0 0 :: (un 2 (.ptr 0 0 :: .osl 4 0 2 1 :: (un 6 []))))))))) [some (rows IntS.cs [0, 96])]), (3493, eh B w c5 (.ptr 2 2 :: (un 1 (.ptr 0 0 :: (un 2 (.ptr 0 0 :: (un 1 (.ptr 0 0 :: .osl 4 0 2 1 :: (un 1 (.ptr 0 0 :: .osl 5 0 2 1 :: (un 6 [])))))))))) [some (rows IntS.cs [0, 9]), some (rows IntS.cs [0, 96])]), (3495, eh B w c5 (un 1 (.osl 3 0 w.Shocks.length 5 :: .ptr 0 0 :: (un 2 (.ptr 0 0 :: (un 1 (.ptr 0 0 :: .osl 4 0 2 1 :: (un 1 (.ptr 0 0 :: .osl 5 0 2 1 :: (un 6 []))))))))) [some (rows IntS.cs [0, 9]), some (rows IntS.cs [0, 96])]), (3501, eh B w c5 (.ptr 2 2 :: (un 1 (.ptr 0 0 :: .osl 4 0 2 1 :: (un 1 (.ptr 0 0 :: (un 1 (.ptr 0 0 :: .osl 5 0 2 1 :: (un 1 (.ptr 0 0 :: .osl 6 0 2 1 :: (un 6 [])))))))))) [some (rows IntS.cs [0, 1]), some (rows IntS.cs [0, 9]), some (rows IntS.cs [0, 96])]), (3503, eh B w c5 (un 1 (.osl 3 0 w.Shocks.length 5 :: .ptr 0 0 :: .osl 4 0 2 1 :: (un 1 (.ptr 0 0 :: (un 1 (.ptr 0 0 :: .osl 5 0 2 1 :: (un 1 (.ptr 0 0 :: .osl 6 0 2 1 :: (un 6 []))))))))) [some (rows IntS.cs [0, 1]), some (rows IntS.cs [0, 9]), some (rows IntS.cs [0, 96])]), (3517, eh B w c6 (.ptr 2 2 :: (un 3 (.int .i64 v6 :: .ptr 0 0 :: (un 1 (.ptr 0 0 :: .osl 4 0 2 1 :: (un 1 (.ptr 0 0 :: .osl 5 0 2 1 :: (un 6 [])))))))) [some (rows IntS.cs [0, 9]), some (rows IntS.cs [0, 96])]), (3519, eh B w c6 (un 1 (.osl 3 0 w.Shocks.length 5 :: (un 2 (.int .i64 v6 :: .ptr 0 0 :: (un 1 (.ptr 0 0 :: .osl 4 0 2 1 :: (un 1 (.ptr 0 0 :: .osl 5 0 2 1 :: (un 6 []))))))))) [some (rows IntS.cs [0, 9]), some (rows IntS.cs [0, 96])]), (3581, eh B w c7 (.ptr 2 2 :: (un 3 (.int .i64 v6 :: (un 1 (.int .i64 v7 :: .ptr 0 0 :: .osl 4 0 2 1 :: (un 1 (.ptr 0 0 :: .osl 5 0 2 1 :: (un 6 [])))))))) [some (rows IntS.cs [0, 9]), some (rows IntS.cs [0, 96])]), (3583, eh B w c7 (un 1 (.osl 3 0 w.Shocks.length 5 :: (un 2 (.int .i64 v6 :: (un 1 (.int .i64 v7 :: .ptr 0 0 :: .osl 4 0 2 1 :: (un 1 (.ptr 0 0 :: .osl 5 0 2 1 :: (un 6 []))))))))) [some (rows IntS.cs [0, 9]), some (rows IntS.cs [0, 96])]), (4093, eh B w c8 (.ptr 2 2 :: (un 3 (.int .i64 v6 :: (un 1 (.int .i64 v7 :: (un 2 (.int .i64 v8 :: .ptr 0 0 :: .osl 4 0 2 1 :: (un 6 [])))))))) [some (rows IntS.cs [0, 96])]), (4095, eh B w c8 (un 1 (.osl 3 0 w.Shocks.length 5 :: (un 2 (.int .i64 v6 :: (un 1 (.int .i64 v7 :: (un 2 (.int .i64 v8 :: .ptr 0 0 :: .osl 4 0 2 1 :: (un 6 []))))))))) [some (rows IntS.cs [0, 96])]), (8189, eh B w c9 (.ptr 2 2 :: (un 3 (.int .i64 v6 :: (un 1 (.int .i64 v7 :: (un 2 (.int .i64 v8 :: (un 2 (.int .i64 v9 :: (un 5 [])))))))))) []), (8191, eh B w c9 (un 1 (.osl 3 0 w.Shocks.length 5 :: (un 2 (.int .i64 v6 :: (un 1 (.int .i64 v7 :: (un 2 (.int .i64 v8 :: (un 2 (.int .i64 v9 :: (un 5 []))))))))))) []), (16381, eh B w c9 (.ptr 2 2 :: (un 12 (.agg [.int .i64 v6, .int .i64 v7, .int .i64 v8, .int .i64 v9, .int .i64 0] :: (un 4 [])))) []), (16383, eh B w c9 (un 1 (.osl 3 0 w.Shocks.length 5 :: (un 11 (.agg [.int .i64 v6, .int .i64 v7, .int .i64 v8, .int .i64 v9, .int .i64 0] :: (un 4 []))))) []), (32765, eh B w c9 (.ptr 2 2 :: (un 13 (.osl 4 0 1 5 :: (un 3 [])))) [some [.int .i64 v6, .int .i64 v7, .int .i64 v8, .int .i64 v9, .int .i64 0]]), (32767, eh B w c9 (un 1 (.osl 3 0 w.Shocks.length 5 :: (un 12 (.osl 4 0 1 5 :: (un 3 []))))) [some [.int .i64 v6, .int .i64 v7, .int .i64 v8, .int .i64 v9, .int .i64 0]]), (65535, ⟨(.ptr 0 0 :: .undef :: .ptr 1 0 :: .ptr 2 0 :: (un 57 (.osl 3 0 (w.Shocks.length + 1) 5 :: .undef :: .undef :: []))), [some (c9.cs B), some [.int .i64 0, .nilsl, .nilsl, .int .i64 0, .int .i64 0], some [.int .i64 w.Now, .sl w.Posts.length 3 (rows bc.cs w.Posts), .undef, .int .i64 w.Next, .int .i64 w.Archived], some (rows al.cs (w.Shocks ++ [⟨v6, v7, v8, v9, 0⟩]))], 1⟩), (131071, ⟨(.ptr 0 0 :: .undef :: .ptr 1 0 :: .ptr 2 0 :: (un 57 (.osl 3 0 (w.Shocks.length + 1) 5 :: .ptr 2 2 :: .undef :: []))), [some (c9.cs B), some [.int .i64 0, .nilsl, .nilsl, .int .i64 0, .int .i64 0], some [.int .i64 w.Now, .sl w.Posts.length 3 (rows bc.cs w.Posts), .undef, .int .i64 w.Next, .int .i64 w.Archived], some (rows al.cs (w.Shocks ++ [⟨v6, v7, v8, v9, 0⟩]))], 1⟩), (262143, ⟨(.ptr 0 0 :: .undef :: .ptr 1 0 :: .ptr 2 0 :: (un 60 [])), [some (c9.cs B), some [.int .i64 0, .nilsl, .nilsl, .int .i64 0, .int .i64 0], some [.int .i64 w.Now, .sl w.Posts.length 3 (rows bc.cs w.Posts), .osl 3 0 (w.Shocks.length + 1) 5, .int .i64 w.Next, .int .i64 w.Archived], some (rows al.cs (w.Shocks ++ [⟨v6, v7, v8, v9, 0⟩]))], 1⟩)]
theorem mr {B : List Int} {k : Int} {h : Hp} {r : V} {c : Cur} (w : ae) (h0 : h[0]? = some (some (c.cs B))) (hle : LeV (ren (bb [0] h true) 3 r) w.v) (hw : w.ok) (hp : w.Posts.length ≤ 100) (hs : w.Shocks.length ≤ 100) (hc : c.le k) (hm : w.sm := by first | assumption | (simp [ae.sm]; done) | (simp [ae.sm]; assumption) | exact ae.avx (by assumption) (by assumption)) : yl 1 r h (aq5 B k) := by
 refine ⟨_, _, ⟨w, c, ⟨hw, hm⟩, hp, hs, hc, rfl, rfl⟩, aj.pick [0] (by decide) (fun j hj => by cases j <;> simp_all) hle ?_⟩
 simp only [az, List.map_cons, List.map_nil, bg, h0, Cur.ren]
theorem ar1 (w : ae) (x : al) {h : Hp} (h3 : h[3]? = some (some (rows al.cs (w.Shocks ++ [x])))) : (⟨w.Now, w.Posts, w.Shocks ++ [x], w.Next, w.Archived⟩ : ae).v = ren (bb [0] h true) 3 (.agg [.int .i64 w.Now, .sl w.Posts.length 3 (rows bc.cs w.Posts), .osl 3 0 (w.Shocks.length + 1) 5, .int .i64 w.Next, .int .i64 w.Archived]) := by
 generalize hW : w.Shocks ++ [x] = W at *
 have hl : w.Shocks.length + 1 = W.length := by rw [← hW]; simp
 rw [hl]
 simp [ren, bb, posOf, ma, h3, ab, db, ae.v]
theorem aqi {B : List Int} (hB : CB B) {k : Int} (hk : k ≤ 100000) {c : Cur} (hc : c.le k) : lr Tryz.prog 59 [.ptr 0 0] [some (c.cs B)] (aq5 B (k + 2000)) := by
 have hcb : ∀ {c' : Cur} {k' : Int}, c'.le k' → k' ≤ 4000000 → c'.le 4611686018427387903 := fun h h' => ⟨h.1, by have := h.2; omega⟩
 refine lr.intro Tryz.mixed Tryz.func59 rfl Tryz.a61 ?_
 refine ev2 @Tryz.ntmps59 @Tryz.results59 ?_
 refine rn0 ?_
 refine ai.rel [0] (ug hB (by omega) hc) (by decide) ⟨leO, trivial⟩ (dm rfl) rfl (fun r hout hΦ => ?_)
 obtain ⟨K, c1, hK, hc1, rfl, rfl⟩ := hΦ
 refine ⟨⟨⟨rfl, rfl⟩, trivial⟩, ?_⟩
 refine rn3 @Cur.ren @ab @List.getElem?_nil.{0} ?_
 have zsm : ae.sm ⟨0, [], [], 0, 0⟩ := by simp [ae.sm]
 have zok : ae.ok ⟨0, [], [], 0, 0⟩ := by simp [ae.ok, bu, afz]
 have cz : ∀ k n v : Int, v ≤ 9223372036854775807 → Ctr Tryz.prog 101 [ae.v ⟨0, [], [], 0, 0⟩, .agg [.int .i64 k, .int .i64 n, .int .i64 v]] [] (.tup [alo, .bool false]) [] := by
  intro k n v hv
  have h := tb ⟨0, [], [], 0, 0⟩ k n v (by simp) (by simp) hv
  have hz : fi ⟨0, [], [], 0, 0⟩ k n v = none := by simp [fi, wB, ji, ep]
  rw [hz] at h
  exact h
 cases hb : wB (fq K) with
 | false =>
  (have ct := aax K (by omega) hb; (first | refine ak.at ct ⟨l6, trivial⟩ ?_ | refine ai.at ct ⟨l6, trivial⟩ ?_); clear ct)
  refine rn2 @yo.eq_1 @Cur.ren ?_
  refine gj hB hc1 (by omega) 30 (by omega) rfl (fun vc2 c2 pvc2 hc2 => ?_)
  refine rn2 @Cur.ren @ab ?_
  obtain ⟨n0, hn0⟩ : ∃ n : Nat, vc2 = n := ⟨vc2.toNat, by omega⟩
  subst hn0
  refine dn.intro (fun x : Nat × Cur => x.1 ≤ 30 ∧ x.2.le (k + 102 + 30 * (30 - (x.1 : Int)))) (fun x => ⟨(.ptr 0 0 :: .undef :: .ptr 1 0 :: .ptr 2 0 :: .undef :: .int .i64 x.1 :: (un 58 [])), [some (x.2.cs B), some [.int .i64 0, .nilsl, .nilsl, .int .i64 0, .int .i64 0], some [.int .i64 0, .nilsl, .nilsl, .int .i64 0, .int .i64 0]], 1⟩) (fun x => x.1) (n0, c2) ⟨by simp only []; omega, cm hc2 (by simp only []; omega)⟩ ?_ (fun x hx => ?_)
  · refine bo.pick [0, 1, 3] (by decide) (fun j hj => by cases j <;> simp_all) ?_ ?_
    · simp [LeG, LeC, LeV, ren, bb, posOf]
    · simp [az, bg, Cur.ren, ren]
  obtain ⟨n, c3⟩ := x
  obtain ⟨x1, hc3⟩ := hx
  dsimp only at x1 hc3
  refine ev0 ?_
  refine aw.split (fun h1 => ?_) (fun h1 => ?_)
  · have hn : 0 < n := by have := of_decide_eq_true h1; omega
    refine rn1 @h1 ?_
    refine clT.tree (fun s2 => ∃ (c4 : Cur), c4.le (k + 102 + 30 * (30 - (n : Int)) + 20) ∧ s2 = ⟨(.ptr 0 0 :: .undef :: .ptr 1 0 :: .ptr 2 0 :: .undef :: .int .i64 n :: .undef :: .bool false :: (un 56 [])), [some (c4.cs B), some [.int .i64 0, .nilsl, .nilsl, .int .i64 0, .int .i64 0], some [.int .i64 0, .nilsl, .nilsl, .int .i64 0, .int .i64 0]], 1⟩) (.take 1 (.alt 0 (.alt 2 (.alt 3 (.alt 4 (.take 5 (.take 6 (.take 7 (.alt 8 (.alt 9 (.alt 10 .done .stop) .stop) .stop)))) (.alt 8 (.alt 4 (.take 5 (.take 6 (.take 7 (.alt 9 (.alt 10 .done .stop) .stop)))) .stop) .stop)) (.alt 8 (.alt 3 (.alt 4 (.take 5 (.take 6 (.take 7 (.alt 9 (.alt 10 .done .stop) .stop)))) .stop) .stop) .stop)) (.alt 8 (.alt 2 (.alt 3 (.alt 4 (.take 5 (.take 6 (.take 7 (.alt 9 (.alt 10 .done .stop) .stop)))) .stop) .stop) .stop) .stop)) (.alt 2 (.alt 0 (.alt 3 (.alt 4 (.take 5 (.take 6 (.take 7 (.alt 8 (.alt 9 (.alt 10 .done .stop) .stop) .stop)))) (.alt 8 (.alt 4 (.take 5 (.take 6 (.take 7 (.alt 9 (.alt 10 .done .stop) .stop)))) .stop) .stop)) (.alt 8 (.alt 3 (.alt 4 (.take 5 (.take 6 (.take 7 (.alt 9 (.alt 10 .done .stop) .stop)))) .stop) .stop) .stop)) (.alt 3 (.alt 0 (.alt 4 (.take 5 (.take 6 (.take 7 (.alt 8 (.alt 9 (.alt 10 .done .stop) .stop) .stop)))) (.alt 8 (.alt 4 (.take 5 (.take 6 (.take 7 (.alt 9 (.alt 10 .done .stop) .stop)))) .stop) .stop)) (.alt 8 (.alt 0 (.alt 4 (.take 5 (.take 6 (.take 7 (.alt 9 (.alt 10 .done .stop) .stop)))) .stop) .stop) .stop)) (.alt 8 (.alt 0 (.alt 3 (.alt 4 (.take 5 (.take 6 (.take 7 (.alt 9 (.alt 10 .done .stop) .stop)))) .stop) .stop) (.alt 3 (.alt 0 (.alt 4 (.take 5 (.take 6 (.take 7 (.alt 9 (.alt 10 .done .stop) .stop)))) .stop) .stop) .stop)) .stop))) (.alt 8 (.alt 0 (.alt 2 (.alt 3 (.alt 4 (.take 5 (.take 6 (.take 7 (.alt 9 (.alt 10 .done .stop) .stop)))) .stop) .stop) .stop) (.alt 2 (.alt 0 (.alt 3 (.alt 4 (.take 5 (.take 6 (.take 7 (.alt 9 (.alt 10 .done .stop) .stop)))) .stop) .stop) (.alt 3 (.alt 0 (.alt 4 (.take 5 (.take 6 (.take 7 (.alt 9 (.alt 10 .done .stop) .stop)))) .stop) .stop) .stop)) .stop)) .stop)))) (by kernel_rfl) (fun s2 hs2 => ?_) ?_
    · obtain ⟨c4, hc4, rfl⟩ := hs2
      refine rn0 ?_
      have hn1 : ((n - 1 : Nat) : Int) = (n : Int) - 1 := by omega
      refine ⟨(n - 1, c4), ⟨by simp only []; omega, cm hc4 (by simp only []; omega)⟩, ?_, by simp only []; omega⟩
      refine bo.cut (3) (by simp) (by simp) ?_ ?_
      · simp [LeC, LeV, ren, bh, hn1]
      · simp [cb, ck, Cur.ren, ren]
    · refine rn0 ?_
      repeat' (first | (refine ai.rel [0] (aaj hB (by omega) hc3 ⟨0, [], [], 0, 0⟩ zsm (by simp) (by simp)) (by decide) ⟨leO, leO, trivial⟩ (dm rfl) rfl (fun r hout hΦ => ?_); obtain ⟨s, c4, hs, hc4, rfl, rfl⟩ := hΦ; refine ⟨⟨⟨rfl, rfl⟩, trivial⟩, ?_⟩; refine rn2 @Cur.ren @cr.v.eq_1 ?_) | ((have ct := cz s.Kind s.Number s.Value (by have := hs.2.2.2; omega); (first | refine ak.at ct ⟨l6, l6, trivial⟩ ?_ | refine ai.at ct ⟨l6, l6, trivial⟩ ?_); clear ct); refine rn2 @Cur.ren @alo.eq_1 ?_) | (refine And.intro ?_ ?_) | exact trivial)
      all_goals
       refine ⟨_, ⟨c4, cm hc4 (by omega), rfl⟩, ?_⟩
       refine bo.cut (3) (by simp) (by simp) ?_ ?_
       · simp [LeC, LeV, ren, bh]
       · simp [cb, ck, Cur.ren, ren]
  · refine rn1 @h1 ?_
    refine gj hB hc3 (by omega) 32 (by omega) rfl (fun vc5 c5 pvc5 hc5 => ?_)
    refine rn1 @Cur.ren ?_
    refine aw.split (fun h3 => ?_) (fun h3 => ?_)
    · refine rn1 @h3 ?_
      refine an hB hc5 (by omega) [-1, 0, 1000001] (by simp) (by simp) rfl rfl rfl (fun vc6 c6 pvc6 hc6 => ?_)
      refine rn1 @Cur.ren ?_
      have hv6 : bu vc6 := bm pvc6 (by simp [bu])
      exact mr ⟨vc6, [], [], 0, 0⟩ rfl leO (by simp [ae.ok, afz, hv6]; simp [bu]) (by simp) (by simp) (cm hc6 (by omega))
    · refine rn1 @h3 ?_
      refine aw.split (fun h4 => ?_) (fun h4 => ?_)
      · refine rn1 @h4 ?_
        refine an hB hc5 (by omega) [0, 1, 999, 1000] (by simp) (by simp) rfl rfl rfl (fun vc6 c6 pvc6 hc6 => ?_)
        refine rn1 @Cur.ren ?_
        have hv6 : bu vc6 := bm pvc6 (by simp [bu])
        exact mr ⟨0, [], [], vc6, 0⟩ rfl leO (by simp [ae.ok, afz, hv6]; simp [bu]) (by simp) (by simp) (cm hc6 (by omega))
      · refine rn1 @h4 ?_
        refine aw.split (fun h5 => ?_) (fun h5 => ?_)
        · refine rn1 @h5 ?_
          have p6 := o6 hB (hcb hc5 (by omega)) [0, 1] (by simp) (by simp)
          have hc6 := dt (B := B) (n := (([0, 1] : List Int).length : Int)) hc5
          have m6 := mh hB (K := [0, 1]) (by simp) hc5.1
          generalize nb B [0, 1] c5 = v6 at p6 m6
          generalize fj B (([0, 1] : List Int).length : Int) c5 = c6 at p6 hc6
          have p7 := j6 hB (hcb hc6 (by omega)) 5 (by omega)
          have hc7 := dt (B := B) (n := 5) hc6
          have m7 := fb hB (n := 5) hc6.1
          generalize iy B 5 c6 = v7 at p7 m7
          generalize fj B 5 c6 = c7 at p7 hc7
          have p8 := o6 hB (hcb hc7 (by omega)) [0, 9] (by simp) (by simp)
          have hc8 := dt (B := B) (n := (([0, 9] : List Int).length : Int)) hc7
          have m8 := mh hB (K := [0, 9]) (by simp) hc7.1
          generalize nb B [0, 9] c7 = v8 at p8 m8
          generalize fj B (([0, 9] : List Int).length : Int) c7 = c8 at p8 hc8
          have p9 := o6 hB (hcb hc8 (by omega)) [0, 96] (by simp) (by simp)
          have hc9 := dt (B := B) (n := (([0, 96] : List Int).length : Int)) hc8
          have m9 := mh hB (K := [0, 96]) (by simp) hc8.1
          generalize nb B [0, 96] c8 = v9 at p9 m9
          generalize fj B (([0, 96] : List Int).length : Int) c8 = c9 at p9 hc9
          have hx6 : sR v6 := cx m6 (by simp [sR])
          have hx : al.ok ⟨v6, v7, v8, v9, 0⟩ := ⟨bm m6 (by simp [bu]), (show bu v7 from ⟨by omega, by omega⟩), bm m8 (by simp [bu]), bm m9 (by simp [bu]), by simp [bu]⟩
          refine clT.graph [(262143, []), (131071, [17]), (65535, [16]), (32767, [15]), (32765, [1]), (16383, [14]), (16381, [1, 14]), (8191, [13]), (8189, [1, 13]), (4095, [12]), (4093, [1, 12]), (3583, [9]), (3581, [1, 9]), (3519, [6]), (3517, [1, 6]), (3503, [4]), (3501, [1, 4]), (3495, [3]), (3493, [1, 3]), (3327, [8]), (3325, [1, 8]), (3263, [6, 8]), (3261, [1, 6, 8]), (3247, [4, 8]), (3245, [1, 4, 8]), (3239, [3, 8]), (3237, [1, 3, 8]), (2047, [11]), (2045, [1, 11]), (1535, [9, 11]), (1533, [1, 9, 11]), (1471, [6, 11]), (1469, [1, 6, 11]), (1455, [4, 11]), (1453, [1, 4, 11]), (1447, [3, 11]), (1445, [1, 3, 11]), (1279, [8, 11]), (1277, [1, 8, 11]), (1215, [6, 8, 11]), (1213, [1, 6, 8, 11]), (1199, [4, 8, 11]), (1197, [1, 4, 8, 11]), (1191, [3, 8, 11]), (1189, [1, 3, 8, 11]), (165, [10]), (37, [7]), (5, [5]), (1, [2]), (0, [0])] (gA _ (tabZ B c5 c6 c7 c8 c9 v6 v7 v8 v9)) (by kernel_rfl) rfl ?_
          iterate 50 (refine ⟨fun s hs => ?_, ?_⟩; rotate_left)
          exact trivial
          · obtain rfl := Option.some.inj (show some _ = some s from hs)
            refine rn0 ?_
            exact mr ⟨0, [], [⟨v6, v7, v8, v9, 0⟩], 0, 0⟩ rfl (LeV.aqd ⟨.inl rfl, LeE.nil, .inl (by simp [ren, bb, posOf, ma, rows, al.cs]), .inl rfl, .inl rfl, trivial⟩) ⟨by simp [bu], by simp [afz], ⟨by simp, fun y hy => by rw [List.mem_singleton.1 hy]; exact hx⟩, by simp [bu], by simp [bu]⟩ (by simp) (by simp) (cm hc9 (by omega))
          all_goals (obtain rfl := Option.some.inj (show some _ = some s from hs))
          all_goals (repeat' (first | exact trivial | refine ad4 rfl ?_ ?_))
          all_goals refine rn0 ?_
          all_goals (try ((first | refine ai.dp [0, 3] false p9 (by decide) ⟨leO, leO, trivial⟩ (br rfl rfl) (bq B _ _) (.inl rfl) ?_ | refine ai.dp [0, 3] false p8 (by decide) ⟨leO, leO, trivial⟩ (br rfl rfl) (bq B _ _) (.inl rfl) ?_ | refine ai.dp [0] false p7 (by decide) ⟨leO, leO, trivial⟩ (dm rfl) (il B _ _) (.inl rfl) ?_ | refine ai.dp [0, 3] false p6 (by decide) ⟨leO, leO, trivial⟩ (br rfl rfl) (bq B _ _) (.inl rfl) ?_); refine rn2 @Cur.ren @ab ?_))
          all_goals have wk := @gpk _ _ _ trivial trivial trivial
          exact wk [0,1,2,3] rfl; exact wk [0,1,2,3] rfl; exact wk [0,1,2,4] rfl; exact wk [0,1,2,3] rfl; exact wk [0,1,2,3] rfl; exact wk [0,1,2] rfl; exact wk [0,1,2,3] rfl; (iterate 4 exact wk [0,1,2] rfl); exact wk [0,1,2,3] rfl; exact wk [0,1,2] rfl
          exact wk [0,1,2,4] rfl; exact wk [0,1,2,3,4] rfl; exact wk [0,1,2,4] rfl; (iterate 3 exact wk [0,1,2,3,4] rfl); exact wk [0,1,2,4,5] rfl; exact wk [0,1,2,3,4,5] rfl; exact wk [0,1,2,4,5] rfl; exact wk [0,1,2,5,3,4] rfl
          exact wk [0,1,2,3,4] rfl; exact wk [0,1,2,5,3,4] rfl; exact wk [0,1,2,4,3] rfl; exact wk [0,1,2,3] rfl; exact wk [0,1,2,4,3] rfl; exact wk [0,1,2,3] rfl; exact wk [0,1,2,4,3] rfl; exact wk [0,1,2,3] rfl; exact wk [0,1,2,3] rfl
          exact wk [0,1,2,4,3] rfl; exact wk [0,1,2,4] rfl; exact wk [0,1,2,3,5,4] rfl; exact wk [0,1,2,3,4] rfl; exact wk [0,1,2,4] rfl; exact wk [0,1,2,3,5,4] rfl; exact wk [0,1,2,4,3] rfl; exact wk [0,1,2,4,3] rfl; exact wk [0,1,2,3] rfl
          exact wk [0,1,2,4,3] rfl; exact wk [0,1,2,4,3] rfl; exact wk [0,1,2,3] rfl; exact wk [0,1,2] rfl; exact wk [0,1,2,3] rfl; exact wk [0,1,2] rfl; exact wk [0,1,2,3,4] rfl; exact wk [0,1,2,3] rfl; exact wk [0,1,2] rfl
          exact wk [0,1,2,3,4] rfl; exact wk [0,1,2,3] rfl; exact wk [0,1,2,3,4] rfl; exact wk [0,1,2,3] rfl; exact wk [0,1,2,3] rfl; exact wk [0,1,2,3,4] rfl; exact wk [0,1,2,4] rfl; exact wk [0,1,2,3,4,5] rfl; exact wk [0,1,2,3,4] rfl
          exact wk [0,1,2,4] rfl; exact wk [0,1,2,3,4,5] rfl; exact wk [0,1,2,4,3] rfl; exact wk [0,1,2,3,4] rfl; exact wk [0,1,2,3] rfl; exact wk [0,1,2,4,3] rfl; exact wk [0,1,2,3,4] rfl; exact wk [0,1,2,3] rfl; exact wk [0,1,2,3] rfl
          exact wk [0,1,2] rfl; exact wk [0,1,2,3] rfl; exact wk [0,1,2,3] rfl; exact wk [0,1,2] rfl; exact wk [0,1,2,3] rfl; exact wk [0,1,2,3] rfl; exact wk [0,1,2] rfl; exact wk [0,1,2] rfl; exact wk [0,1,2,3] rfl; exact wk [0,1,2,3] rfl; exact wk [0,1,2] rfl; exact wk [0,1,2,3,4] rfl; exact wk [0,1,2,3,4] rfl
          exact wk [0,1,2,3] rfl; exact wk [0,1,2] rfl; exact wk [0,1,2,3,4] rfl; exact wk [0,1,2,3,4] rfl; (iterate 3 exact wk [0,1,2,3] rfl); exact wk [0,1,2] rfl; (iterate 3 exact wk [0,1,2,3] rfl); (iterate 5 exact wk [0,1,2] rfl)
        · refine rn1 @h5 ?_
          exact mr ⟨0, [], [], 0, 0⟩ rfl leO zok (by simp) (by simp) (cm hc5 (by omega))
 | true =>
  (have ct := aa4 K (by omega) hb; (first | refine ak.at ct ⟨l6, trivial⟩ ?_ | refine ai.at ct ⟨l6, trivial⟩ ?_); clear ct)
  refine rn1 @Cur.ren ?_
  refine gj hB hc1 (by omega) 30 (by omega) rfl (fun vc2 c2 pvc2 hc2 => ?_)
  refine rn2 @Cur.ren @ab ?_
  obtain ⟨n0, hn0⟩ : ∃ n : Nat, vc2 = n := ⟨vc2.toNat, by omega⟩
  subst hn0
  refine dn.intro (fun x : Nat × ae × Cur => x.1 ≤ 30 ∧ wB x.2.1 = true ∧ x.2.2.le (k + 102 + 30 * (30 - (x.1 : Int)))) (fun x => ⟨(.ptr 0 0 :: .undef :: .ptr 1 0 :: .ptr 2 0 :: .undef :: .int .i64 x.1 :: (un 58 [])), [some (x.2.2.cs B), some [.int .i64 0, .nilsl, .nilsl, .int .i64 0, .int .i64 0], some (x.2.1.mc 3), some (rows al.cs x.2.1.Shocks)], 1⟩) (fun x => x.1) (n0, fq K, c2) ⟨by simp only []; omega, hb, cm hc2 (by simp only []; omega)⟩ ?_ (fun x hx => ?_)
  · refine bo.pick [0, 1, 5, 4] (by decide) (fun j hj => by cases j <;> simp_all) ?_ ?_
    · simp [LeG, LeC, LeV, ren, bb, posOf]
    · have hlk : (cn K).length = K.length := by simp [cn]
      have htk : (rows bc.cs (cn K)).take (K.length * 3) = rows bc.cs (cn K) := List.take_of_length_le (by rw [lu (w := 3) bc.csl, hlk]; exact Nat.le_refl _)
      simp [az, bg, Cur.ren, ren, bb, posOf, ma, ae.mc, fq, ab, hlk, htk, aab]
  obtain ⟨n, w, c3⟩ := x
  obtain ⟨x1, hwB, hc3⟩ := hx
  dsimp only at x1 hwB hc3
  refine ev0 ?_
  refine aw.split (fun h1 => ?_) (fun h1 => ?_)
  · have hn : 0 < n := by have := of_decide_eq_true h1; omega
    obtain ⟨wk, wp, ws⟩ := ajf hwB
    refine rn2 @h1 @ae.mc.eq_1 ?_
    refine clT.tree (fun s2 => (∃ (c4 : Cur), c4.le (k + 102 + 30 * (30 - (n : Int)) + 20) ∧ s2 = ⟨(.ptr 0 0 :: .undef :: .ptr 1 0 :: .ptr 2 0 :: .undef :: .int .i64 n :: .undef :: .bool false :: (un 56 [])), [some (c4.cs B), some [.int .i64 0, .nilsl, .nilsl, .int .i64 0, .int .i64 0], some (w.mc 3), some (rows al.cs w.Shocks)], 1⟩) ∨ (∃ (w' : ae) (c4 : Cur), wB w' = true ∧ c4.le (k + 102 + 30 * (30 - (n : Int)) + 20) ∧ s2 = ⟨(.ptr 0 0 :: .undef :: .ptr 1 0 :: .ptr 2 0 :: .undef :: .int .i64 n :: .ptr 4 0 :: .bool true :: (un 56 [])), [some (c4.cs B), some [.int .i64 0, .nilsl, .nilsl, .int .i64 0, .int .i64 0], some (w.mc 3), some (rows al.cs w.Shocks), some (w'.mc 5), some (rows al.cs w'.Shocks)], 1⟩)) (.take 1 (.alt 0 (.alt 2 (.alt 3 (.alt 4 (.take 5 (.take 6 (.take 7 (.alt 8 (.alt 9 (.alt 10 .done .stop) .stop) .stop)))) (.alt 8 (.alt 4 (.take 5 (.take 6 (.take 7 (.alt 9 (.alt 10 .done .stop) .stop)))) .stop) .stop)) (.alt 8 (.alt 3 (.alt 4 (.take 5 (.take 6 (.take 7 (.alt 9 (.alt 10 .done .stop) .stop)))) .stop) .stop) .stop)) (.alt 8 (.alt 2 (.alt 3 (.alt 4 (.take 5 (.take 6 (.take 7 (.alt 9 (.alt 10 .done .stop) .stop)))) .stop) .stop) .stop) .stop)) (.alt 2 (.alt 0 (.alt 3 (.alt 4 (.take 5 (.take 6 (.take 7 (.alt 8 (.alt 9 (.alt 10 .done .stop) .stop) .stop)))) (.alt 8 (.alt 4 (.take 5 (.take 6 (.take 7 (.alt 9 (.alt 10 .done .stop) .stop)))) .stop) .stop)) (.alt 8 (.alt 3 (.alt 4 (.take 5 (.take 6 (.take 7 (.alt 9 (.alt 10 .done .stop) .stop)))) .stop) .stop) .stop)) (.alt 3 (.alt 0 (.alt 4 (.take 5 (.take 6 (.take 7 (.alt 8 (.alt 9 (.alt 10 .done .stop) .stop) .stop)))) (.alt 8 (.alt 4 (.take 5 (.take 6 (.take 7 (.alt 9 (.alt 10 .done .stop) .stop)))) .stop) .stop)) (.alt 8 (.alt 0 (.alt 4 (.take 5 (.take 6 (.take 7 (.alt 9 (.alt 10 .done .stop) .stop)))) .stop) .stop) .stop)) (.alt 8 (.alt 0 (.alt 3 (.alt 4 (.take 5 (.take 6 (.take 7 (.alt 9 (.alt 10 .done .stop) .stop)))) .stop) .stop) (.alt 3 (.alt 0 (.alt 4 (.take 5 (.take 6 (.take 7 (.alt 9 (.alt 10 .done .stop) .stop)))) .stop) .stop) .stop)) .stop))) (.alt 8 (.alt 0 (.alt 2 (.alt 3 (.alt 4 (.take 5 (.take 6 (.take 7 (.alt 9 (.alt 10 .done .stop) .stop)))) .stop) .stop) .stop) (.alt 2 (.alt 0 (.alt 3 (.alt 4 (.take 5 (.take 6 (.take 7 (.alt 9 (.alt 10 .done .stop) .stop)))) .stop) .stop) (.alt 3 (.alt 0 (.alt 4 (.take 5 (.take 6 (.take 7 (.alt 9 (.alt 10 .done .stop) .stop)))) .stop) .stop) .stop)) .stop)) .stop)))) (by kernel_rfl) (fun s2 hs2 => ?_) ?_
    · have hn1 : ((n - 1 : Nat) : Int) = (n : Int) - 1 := by omega
      rcases hs2 with ⟨c4, hc4, rfl⟩ | ⟨w', c4, hwB', hc4, rfl⟩
      · refine rn1 @ae.mc.eq_1 ?_
        refine ⟨(n - 1, w, c4), ⟨by simp only []; omega, hwB, cm hc4 (by simp only []; omega)⟩, ?_, by simp only []; omega⟩
        refine bo.cut (4) (by simp) (by simp) ?_ ?_
        · simp [LeC, LeV, ren, bh, hn1]
        · simp [cb, ck, bh, Cur.ren, ren, ae.mc, ab]
      · refine rn1 @ae.mc.eq_1 ?_
        refine ⟨(n - 1, w', c4), ⟨by simp only []; omega, hwB', cm hc4 (by simp only []; omega)⟩, ?_, by simp only []; omega⟩
        refine bo.pick [0, 1, 2, 5] (by decide) (fun j hj => by cases j <;> simp_all) ?_ ?_
        · simp [LeG, LeC, LeV, ren, bb, posOf, hn1]
        · simp [az, bg, bb, posOf, Cur.ren, ren, ae.mc, ab]
    · refine rn0 ?_
      repeat' (first | (refine ai.rel [0, 3] (af8 hB (by omega) hc3 w wk (by omega) (by omega)) (by decide) ⟨leO, leO, trivial⟩ (br rfl rfl) rfl (fun r hout hΦ => ?_); obtain ⟨s, c4, hs, hc4, rfl, rfl⟩ := hΦ; refine ⟨bq B _ _, ?_⟩; have cs := tb w s.Kind s.Number s.Value (by omega) (by omega) hs.2.2.2; rcases hst : fi w s.Kind s.Number s.Value with _ | w' <;> rw [hst] at cs <;> simp only [ado, aet] at cs <;> refine rn3 @Cur.ren @cr.v.eq_1 @ab ?_) | ((first | refine ak.at (cs) ⟨l6, l6, trivial⟩ ?_ | refine ai.at (cs) ⟨l6, l6, trivial⟩ ?_); refine rn4 @Cur.ren @alo.eq_1 @ae.o.eq_1 @ab ?_) | (refine And.intro ?_ ?_) | exact trivial)
      all_goals first
       | (refine ⟨_, .inl ⟨c4, hc4, rfl⟩, ?_⟩
          refine bo.cut 4 (by simp) (by simp) ?_ ?_
          · (simp [LeC, LeV, ren, bh]; done)
          · (simp [cb, ck, bh, Cur.ren, ren, ae.mc, ab]; done))
       | (refine ⟨_, .inr ⟨w', c4, aog hst, hc4, rfl⟩, ?_⟩
          refine bo.pick [0, 1, 2, 3, 4, 6] (by decide) (fun j hj => by cases j <;> simp_all) ?_ ?_
          · (simp [LeG, LeC, LeV, ren, bb, posOf]; done)
          · (simp [az, bg, bb, posOf, ma, Cur.ren, ren, ae.mc, ab, db]; done))
       | (refine ⟨_, .inr ⟨w', c4, aog hst, hc4, rfl⟩, ?_⟩
          refine bo.pick [0, 1, 2, 3, 6, 5] (by decide) (fun j hj => by cases j <;> simp_all) ?_ ?_
          · (simp [LeG, LeC, LeV, ren, bb, posOf]; done)
          · (simp [az, bg, bb, posOf, ma, Cur.ren, ren, ae.mc, ab, db]; done))
       | skip
  · have wsm := atm hwB
    obtain ⟨wk, wp, ws⟩ := ajf hwB
    obtain ⟨wk1, wk2, wk3, wk4, wk5⟩ := wk
    refine rn2 @h1 @ae.mc.eq_1 ?_
    refine gj hB hc3 (by omega) 32 (by omega) rfl (fun vc5 c5 pvc5 hc5 => ?_)
    refine rn2 @Cur.ren @ab ?_
    refine aw.split (fun h3 => ?_) (fun h3 => ?_)
    · refine rn1 @h3 ?_
      refine an hB hc5 (by omega) [-1, 0, 1000001] (by simp) (by simp) rfl rfl rfl (fun vc6 c6 pvc6 hc6 => ?_)
      refine rn2 @Cur.ren @ab ?_
      have hv6 : bu vc6 := bm pvc6 (by simp [bu])
      refine mr ⟨vc6, w.Posts, w.Shocks, w.Next, w.Archived⟩ rfl (.inl ?_) ⟨hv6, wk2, wk3, wk4, wk5⟩ (by simp only []; omega) (by simp only []; omega) (cm hc6 (by omega))
      simp [ren, bb, posOf, ma, ab, db, ae.v]
    · refine rn1 @h3 ?_
      refine aw.split (fun h4 => ?_) (fun h4 => ?_)
      · refine rn1 @h4 ?_
        refine an hB hc5 (by omega) [0, 1, 999, 1000] (by simp) (by simp) rfl rfl rfl (fun vc6 c6 pvc6 hc6 => ?_)
        refine rn2 @Cur.ren @ab ?_
        have hv6 : bu vc6 := bm pvc6 (by simp [bu])
        refine mr ⟨w.Now, w.Posts, w.Shocks, vc6, w.Archived⟩ rfl (.inl ?_) ⟨wk1, wk2, wk3, hv6, wk5⟩ (by simp only []; omega) (by simp only []; omega) (cm hc6 (by omega))
        simp [ren, bb, posOf, ma, ab, db, ae.v]
      · refine rn1 @h4 ?_
        refine aw.split (fun h5 => ?_) (fun h5 => ?_)
        · refine rn1 @h5 ?_
          have p6 := o6 hB (hcb hc5 (by omega)) [0, 1] (by simp) (by simp)
          have hc6 := dt (B := B) (n := (([0, 1] : List Int).length : Int)) hc5
          have m6 := mh hB (K := [0, 1]) (by simp) hc5.1
          generalize nb B [0, 1] c5 = v6 at p6 m6
          generalize fj B (([0, 1] : List Int).length : Int) c5 = c6 at p6 hc6
          have p7 := j6 hB (hcb hc6 (by omega)) 5 (by omega)
          have hc7 := dt (B := B) (n := 5) hc6
          have m7 := fb hB (n := 5) hc6.1
          generalize iy B 5 c6 = v7 at p7 m7
          generalize fj B 5 c6 = c7 at p7 hc7
          have p8 := o6 hB (hcb hc7 (by omega)) [0, 9] (by simp) (by simp)
          have hc8 := dt (B := B) (n := (([0, 9] : List Int).length : Int)) hc7
          have m8 := mh hB (K := [0, 9]) (by simp) hc7.1
          generalize nb B [0, 9] c7 = v8 at p8 m8
          generalize fj B (([0, 9] : List Int).length : Int) c7 = c8 at p8 hc8
          have p9 := o6 hB (hcb hc8 (by omega)) [0, 96] (by simp) (by simp)
          have hc9 := dt (B := B) (n := (([0, 96] : List Int).length : Int)) hc8
          have m9 := mh hB (K := [0, 96]) (by simp) hc8.1
          generalize nb B [0, 96] c8 = v9 at p9 m9
          generalize fj B (([0, 96] : List Int).length : Int) c8 = c9 at p9 hc9
          have hx6 : sR v6 := cx m6 (by simp [sR])
          have hx : al.ok ⟨v6, v7, v8, v9, 0⟩ := ⟨bm m6 (by simp [bu]), (show bu v7 from ⟨by omega, by omega⟩), bm m8 (by simp [bu]), bm m9 (by simp [bu]), by simp [bu]⟩
          have hsn : rows al.cs w.Shocks ++ [.int .i64 v6, .int .i64 v7, .int .i64 v8, .int .i64 v9, .int .i64 0] = rows al.cs (w.Shocks ++ [⟨v6, v7, v8, v9, 0⟩]) := dy (cs := al.cs) w.Shocks ⟨v6, v7, v8, v9, 0⟩
          refine clT.graph [(262143, []), (131071, [17]), (65535, [16]), (32767, [15]), (32765, [1]), (16383, [14]), (16381, [1, 14]), (8191, [13]), (8189, [1, 13]), (4095, [12]), (4093, [1, 12]), (3583, [9]), (3581, [1, 9]), (3519, [6]), (3517, [1, 6]), (3503, [4]), (3501, [1, 4]), (3495, [3]), (3493, [1, 3]), (3327, [8]), (3325, [1, 8]), (3263, [6, 8]), (3261, [1, 6, 8]), (3247, [4, 8]), (3245, [1, 4, 8]), (3239, [3, 8]), (3237, [1, 3, 8]), (2047, [11]), (2045, [1, 11]), (1535, [9, 11]), (1533, [1, 9, 11]), (1471, [6, 11]), (1469, [1, 6, 11]), (1455, [4, 11]), (1453, [1, 4, 11]), (1447, [3, 11]), (1445, [1, 3, 11]), (1279, [8, 11]), (1277, [1, 8, 11]), (1215, [6, 8, 11]), (1213, [1, 6, 8, 11]), (1199, [4, 8, 11]), (1197, [1, 4, 8, 11]), (1191, [3, 8, 11]), (1189, [1, 3, 8, 11]), (165, [10]), (37, [7]), (5, [5]), (1, [2]), (0, [0])] (gA _ (tabM B w c5 c6 c7 c8 c9 v6 v7 v8 v9)) (by kernel_rfl) rfl ?_
          iterate 50 (refine ⟨fun s hs => ?_, ?_⟩; rotate_left)
          exact trivial
          · obtain rfl := Option.some.inj (show some _ = some s from hs)
            refine rn1 @db ?_
            refine mr ⟨w.Now, w.Posts, w.Shocks ++ [⟨v6, v7, v8, v9, 0⟩], w.Next, w.Archived⟩ rfl (.inl ?_) ⟨wk1, wk2, ⟨by simp only [List.length_append, List.length_cons, List.length_nil]; omega, fun y hy => ?_⟩, wk4, wk5⟩ (by simp only []; omega) (by simp only [List.length_append, List.length_cons, List.length_nil]; omega) (cm hc9 (by omega))
            · exact ar1 w ⟨v6, v7, v8, v9, 0⟩ rfl
            · rcases List.mem_append.1 hy with h | h
              · exact wk3.2 y h
              · rw [List.mem_singleton.1 h]; exact hx
          all_goals (obtain rfl := Option.some.inj (show some _ = some s from hs))
          all_goals (repeat' (first | exact trivial | refine ad4 rfl ?_ ?_))
          all_goals refine rn3 @ae.mc.eq_1 @hsn @db ?_
          all_goals (try ((first | refine ai.dp [0, 4] false p9 (by decide) ⟨leO, leO, trivial⟩ (br rfl rfl) (bq B _ _) (.inl rfl) ?_ | refine ai.dp [0, 4] false p8 (by decide) ⟨leO, leO, trivial⟩ (br rfl rfl) (bq B _ _) (.inl rfl) ?_ | refine ai.dp [0] false p7 (by decide) ⟨leO, leO, trivial⟩ (dm rfl) (il B _ _) (.inl rfl) ?_ | refine ai.dp [0, 4] false p6 (by decide) ⟨leO, leO, trivial⟩ (br rfl rfl) (bq B _ _) (.inl rfl) ?_); refine rn5 @Cur.ren @ab @ae.mc.eq_1 @hsn @db ?_))
          all_goals have wk := @gpk _ _ _ @ae.mc.eq_1 @hsn @db
          (iterate 3 exact wk [0,1,2,3] rfl); exact wk [0,1,2,3,4] rfl; exact wk [0,1,2,3,4] rfl; exact wk [0,1,2,3] rfl; exact wk [0,1,2,3,4] rfl; (iterate 4 exact wk [0,1,2,3] rfl); exact wk [0,1,2,3,4] rfl; exact wk [0,1,2,3] rfl; exact wk [0,1,2,3,5] rfl
          exact wk [0,1,2,3,4,5] rfl; exact wk [0,1,2,3,5] rfl; (iterate 3 exact wk [0,1,2,3,4,5] rfl); exact wk [0,1,2,3,5,6] rfl; exact wk [0,1,2,3,4,5,6] rfl; exact wk [0,1,2,3,5,6] rfl; exact wk [0,1,2,3,6,4,5] rfl; exact wk [0,1,2,3,4,5] rfl
          exact wk [0,1,2,3,6,4,5] rfl; exact wk [0,1,2,3,5,4] rfl; exact wk [0,1,2,3,4] rfl; exact wk [0,1,2,3,5,4] rfl; exact wk [0,1,2,3,4] rfl; exact wk [0,1,2,3,5,4] rfl; exact wk [0,1,2,3,4] rfl; exact wk [0,1,2,3,4] rfl; exact wk [0,1,2,3,5,4] rfl
          exact wk [0,1,2,3,5] rfl; exact wk [0,1,2,3,4,6,5] rfl; exact wk [0,1,2,3,4,5] rfl; exact wk [0,1,2,3,5] rfl; exact wk [0,1,2,3,4,6,5] rfl; exact wk [0,1,2,3,5,4] rfl; exact wk [0,1,2,3,5,4] rfl; exact wk [0,1,2,3,4] rfl; exact wk [0,1,2,3,5,4] rfl; exact wk [0,1,2,3,5,4] rfl
          exact wk [0,1,2,3,4] rfl; exact wk [0,1,2,3] rfl; exact wk [0,1,2,3,4] rfl; exact wk [0,1,2,3] rfl; exact wk [0,1,2,3,4,5] rfl; exact wk [0,1,2,3,4] rfl; exact wk [0,1,2,3] rfl; exact wk [0,1,2,3,4,5] rfl
          exact wk [0,1,2,3,4] rfl; exact wk [0,1,2,3,4,5] rfl; exact wk [0,1,2,3,4] rfl; exact wk [0,1,2,3,4] rfl; exact wk [0,1,2,3,4,5] rfl; exact wk [0,1,2,3,5] rfl; exact wk [0,1,2,3,4,5,6] rfl; exact wk [0,1,2,3,4,5] rfl; exact wk [0,1,2,3,5] rfl
          exact wk [0,1,2,3,4,5,6] rfl; exact wk [0,1,2,3,5,4] rfl; exact wk [0,1,2,3,4,5] rfl; exact wk [0,1,2,3,4] rfl; exact wk [0,1,2,3,5,4] rfl; exact wk [0,1,2,3,4,5] rfl; exact wk [0,1,2,3,4] rfl; exact wk [0,1,2,3,4] rfl; exact wk [0,1,2,3] rfl
          exact wk [0,1,2,3,4] rfl; exact wk [0,1,2,3,4] rfl; exact wk [0,1,2,3] rfl; exact wk [0,1,2,3,4] rfl; exact wk [0,1,2,3,4] rfl; exact wk [0,1,2,3] rfl; exact wk [0,1,2,3] rfl; exact wk [0,1,2,3,4] rfl; exact wk [0,1,2,3,4] rfl; exact wk [0,1,2,3] rfl; exact wk [0,1,2,3,4,5] rfl; exact wk [0,1,2,3,4,5] rfl; exact wk [0,1,2,3,4] rfl
          exact wk [0,1,2,3] rfl; exact wk [0,1,2,3,4,5] rfl; exact wk [0,1,2,3,4,5] rfl; (iterate 3 exact wk [0,1,2,3,4] rfl); exact wk [0,1,2,3] rfl; (iterate 3 exact wk [0,1,2,3,4] rfl); (iterate 5 exact wk [0,1,2,3] rfl)
        · refine rn1 @h5 ?_
          refine mr w rfl (.inl ?_) ⟨wk1, wk2, wk3, wk4, wk5⟩ (by omega) (by omega) (cm hc5 (by omega))
          simp [ren, bb, posOf, ma, ab, db, ae.v]
end Go.Proofs
end
section
namespace Go.Lv

def num (n : Int) : ByteArray := ⟨(Lib.itoa n).toArray⟩
theorem aar {n : Int} (h : bu n) : (num n).size ≤ 21 := by
 have := Lib.itoa_length_le n h.1 h.2
 simpa [num, ByteArray.size] using this
theorem jn {n : Int} (h0 : -9223372036854775808 ≤ n) (h1 : n ≤ 9223372036854775807) : (num n).size ≤ 21 := aar ⟨h0, h1⟩
theorem cg (l : Array UInt8) : (ByteArray.mk l).size = l.size := rfl
theorem aso (x y : Array UInt8) : (ByteArray.mk x ++ ByteArray.mk y) = ByteArray.mk (x ++ y) := by
 apply ByteArray.ext
 simp
def digits : ByteArray := ⟨#[48, 49, 50, 51, 52, 53, 54, 55, 56, 57]⟩
theorem uu (d : Nat) (h : d < 10) : digits.extract d (d + 1) = ⟨#[UInt8.ofNat (48 + d)]⟩ := by
 apply ByteArray.ext
 rw [ByteArray.data_extract]
 match d, h with
 | 0, _ => decide
 | 1, _ => decide
 | 2, _ => decide
 | 3, _ => decide
 | 4, _ => decide
 | 5, _ => decide
 | 6, _ => decide
 | 7, _ => decide
 | 8, _ => decide
 | 9, _ => decide
theorem rl (u : Nat) : Lib.itoa (u : Int) = Lib.decDigits u := by unfold Lib.itoa; rw [if_neg (by omega)]; simp
theorem ave {u : Nat} (h : 1 ≤ u) : num (-(u : Int)) = ⟨#[45]⟩ ++ num u := by
 have e : Lib.itoa (-(u : Int)) = 45 :: Lib.decDigits u := by unfold Lib.itoa; rw [if_pos (by omega)]; simp
 unfold num
 rw [e, rl, aso]
 simp
theorem ai4 {u : Nat} (h : u < 10) : num u = digits.extract u (u + 1) := by
 rw [uu u h]
 unfold num
 rw [rl, Lib.decDigits, dif_pos h]
theorem afh {u : Nat} (h : ¬ u < 10) : num u = num ((u / 10 : Nat) : Int) ++ digits.extract (u % 10) (u % 10 + 1) := by
 rw [uu (u % 10) (by omega)]
 unfold num
 rw [rl, rl, Lib.decDigits, dif_neg h, aso]
 simp

theorem rs0 {p q : Prop} (h : q) (hq : Wr q → p := by intro h; (repeat ((repeat1' (first | simp -implicitDefEqProofs -dsimp only [go_sem] | simp -dsimp (disch := omega) only [wrap_i64])); repeat (with_reducible refine And.intro ?_ ?_; focus (first | omega | with_reducible rfl | (show cc _ = true; kernel_rfl) | (simp only [ay, bf, List.length_append, List.length_cons, List.length_nil, List.all_append, List.all_cons, List.all_nil, ch, Nat.mul_one, Nat.one_mul, Bool.and_self]; first | done | omega) | (simp only [ByteArray.size_append, cg, List.size_toArray, List.length_cons, List.length_nil]; omega))))); exact h.o) : p := hq ⟨h⟩
theorem rs1 {a1 p q : Prop} (h1 : a1) (h : q) (hq : a1 → Wr q → p := by intro h1 h; (repeat ((repeat1' (first | simp -implicitDefEqProofs -dsimp only [go_sem, h1] | simp -dsimp (disch := omega) only [wrap_i64])); repeat (with_reducible refine And.intro ?_ ?_; focus (first | omega | with_reducible rfl | (show cc _ = true; kernel_rfl) | (simp only [ay, bf, List.length_append, List.length_cons, List.length_nil, List.all_append, List.all_cons, List.all_nil, ch, Nat.mul_one, Nat.one_mul, Bool.and_self]; first | done | omega) | (simp only [ByteArray.size_append, cg, List.size_toArray, List.length_cons, List.length_nil]; omega))))); exact h.o) : p := hq h1 ⟨h⟩
theorem rs2 {a1 a2 p q : Prop} (h1 : a1) (h2 : a2) (h : q) (hq : a1 → a2 → Wr q → p := by intro h1 h2 h; (repeat ((repeat1' (first | simp -implicitDefEqProofs -dsimp only [go_sem, h1, h2] | simp -dsimp (disch := omega) only [wrap_i64])); repeat (with_reducible refine And.intro ?_ ?_; focus (first | omega | with_reducible rfl | (show cc _ = true; kernel_rfl) | (simp only [ay, bf, List.length_append, List.length_cons, List.length_nil, List.all_append, List.all_cons, List.all_nil, ch, Nat.mul_one, Nat.one_mul, Bool.and_self]; first | done | omega) | (simp only [ByteArray.size_append, cg, List.size_toArray, List.length_cons, List.length_nil]; omega))))); exact h.o) : p := hq h1 h2 ⟨h⟩
theorem rs3 {a1 a2 a3 p q : Prop} (h1 : a1) (h2 : a2) (h3 : a3) (h : q) (hq : a1 → a2 → a3 → Wr q → p := by intro h1 h2 h3 h; (repeat ((repeat1' (first | simp -implicitDefEqProofs -dsimp only [go_sem, h1, h2, h3] | simp -dsimp (disch := omega) only [wrap_i64])); repeat (with_reducible refine And.intro ?_ ?_; focus (first | omega | with_reducible rfl | (show cc _ = true; kernel_rfl) | (simp only [ay, bf, List.length_append, List.length_cons, List.length_nil, List.all_append, List.all_cons, List.all_nil, ch, Nat.mul_one, Nat.one_mul, Bool.and_self]; first | done | omega) | (simp only [ByteArray.size_append, cg, List.size_toArray, List.length_cons, List.length_nil]; omega))))); exact h.o) : p := hq h1 h2 h3 ⟨h⟩
theorem rs4 {a1 a2 a3 a4 p q : Prop} (h1 : a1) (h2 : a2) (h3 : a3) (h4 : a4) (h : q) (hq : a1 → a2 → a3 → a4 → Wr q → p := by intro h1 h2 h3 h4 h; (repeat ((repeat1' (first | simp -implicitDefEqProofs -dsimp only [go_sem, h1, h2, h3, h4] | simp -dsimp (disch := omega) only [wrap_i64])); repeat (with_reducible refine And.intro ?_ ?_; focus (first | omega | with_reducible rfl | (show cc _ = true; kernel_rfl) | (simp only [ay, bf, List.length_append, List.length_cons, List.length_nil, List.all_append, List.all_cons, List.all_nil, ch, Nat.mul_one, Nat.one_mul, Bool.and_self]; first | done | omega) | (simp only [ByteArray.size_append, cg, List.size_toArray, List.length_cons, List.length_nil]; omega))))); exact h.o) : p := hq h1 h2 h3 h4 ⟨h⟩
theorem rs5 {a1 a2 a3 a4 a5 p q : Prop} (h1 : a1) (h2 : a2) (h3 : a3) (h4 : a4) (h5 : a5) (h : q) (hq : a1 → a2 → a3 → a4 → a5 → Wr q → p := by intro h1 h2 h3 h4 h5 h; (repeat ((repeat1' (first | simp -implicitDefEqProofs -dsimp only [go_sem, h1, h2, h3, h4, h5] | simp -dsimp (disch := omega) only [wrap_i64])); repeat (with_reducible refine And.intro ?_ ?_; focus (first | omega | with_reducible rfl | (show cc _ = true; kernel_rfl) | (simp only [ay, bf, List.length_append, List.length_cons, List.length_nil, List.all_append, List.all_cons, List.all_nil, ch, Nat.mul_one, Nat.one_mul, Bool.and_self]; first | done | omega) | (simp only [ByteArray.size_append, cg, List.size_toArray, List.length_cons, List.length_nil]; omega))))); exact h.o) : p := hq h1 h2 h3 h4 h5 ⟨h⟩
theorem rs7 {a1 a2 a3 a4 a5 a6 a7 p q : Prop} (h1 : a1) (h2 : a2) (h3 : a3) (h4 : a4) (h5 : a5) (h6 : a6) (h7 : a7) (h : q) (hq : a1 → a2 → a3 → a4 → a5 → a6 → a7 → Wr q → p := by intro h1 h2 h3 h4 h5 h6 h7 h; (repeat ((repeat1' (first | simp -implicitDefEqProofs -dsimp only [go_sem, h1, h2, h3, h4, h5, h6, h7] | simp -dsimp (disch := omega) only [wrap_i64])); repeat (with_reducible refine And.intro ?_ ?_; focus (first | omega | with_reducible rfl | (show cc _ = true; kernel_rfl) | (simp only [ay, bf, List.length_append, List.length_cons, List.length_nil, List.all_append, List.all_cons, List.all_nil, ch, Nat.mul_one, Nat.one_mul, Bool.and_self]; first | done | omega) | (simp only [ByteArray.size_append, cg, List.size_toArray, List.length_cons, List.length_nil]; omega))))); exact h.o) : p := hq h1 h2 h3 h4 h5 h6 h7 ⟨h⟩
theorem rs8 {a1 a2 a3 a4 a5 a6 a7 a8 p q : Prop} (h1 : a1) (h2 : a2) (h3 : a3) (h4 : a4) (h5 : a5) (h6 : a6) (h7 : a7) (h8 : a8) (h : q) (hq : a1 → a2 → a3 → a4 → a5 → a6 → a7 → a8 → Wr q → p := by intro h1 h2 h3 h4 h5 h6 h7 h8 h; (repeat ((repeat1' (first | simp -implicitDefEqProofs -dsimp only [go_sem, h1, h2, h3, h4, h5, h6, h7, h8] | simp -dsimp (disch := omega) only [wrap_i64])); repeat (with_reducible refine And.intro ?_ ?_; focus (first | omega | with_reducible rfl | (show cc _ = true; kernel_rfl) | (simp only [ay, bf, List.length_append, List.length_cons, List.length_nil, List.all_append, List.all_cons, List.all_nil, ch, Nat.mul_one, Nat.one_mul, Bool.and_self]; first | done | omega) | (simp only [ByteArray.size_append, cg, List.size_toArray, List.length_cons, List.length_nil]; omega))))); exact h.o) : p := hq h1 h2 h3 h4 h5 h6 h7 h8 ⟨h⟩
theorem rs9 {a1 a2 a3 a4 a5 a6 a7 a8 a9 p q : Prop} (h1 : a1) (h2 : a2) (h3 : a3) (h4 : a4) (h5 : a5) (h6 : a6) (h7 : a7) (h8 : a8) (h9 : a9) (h : q) (hq : a1 → a2 → a3 → a4 → a5 → a6 → a7 → a8 → a9 → Wr q → p := by intro h1 h2 h3 h4 h5 h6 h7 h8 h9 h; (repeat ((repeat1' (first | simp -implicitDefEqProofs -dsimp only [go_sem, h1, h2, h3, h4, h5, h6, h7, h8, h9] | simp -dsimp (disch := omega) only [wrap_i64])); repeat (with_reducible refine And.intro ?_ ?_; focus (first | omega | with_reducible rfl | (show cc _ = true; kernel_rfl) | (simp only [ay, bf, List.length_append, List.length_cons, List.length_nil, List.all_append, List.all_cons, List.all_nil, ch, Nat.mul_one, Nat.one_mul, Bool.and_self]; first | done | omega) | (simp only [ByteArray.size_append, cg, List.size_toArray, List.length_cons, List.length_nil]; omega))))); exact h.o) : p := hq h1 h2 h3 h4 h5 h6 h7 h8 h9 ⟨h⟩
theorem rs11 {a1 a2 a3 a4 a5 a6 a7 a8 a9 a10 a11 p q : Prop} (h1 : a1) (h2 : a2) (h3 : a3) (h4 : a4) (h5 : a5) (h6 : a6) (h7 : a7) (h8 : a8) (h9 : a9) (h10 : a10) (h11 : a11) (h : q) (hq : a1 → a2 → a3 → a4 → a5 → a6 → a7 → a8 → a9 → a10 → a11 → Wr q → p := by intro h1 h2 h3 h4 h5 h6 h7 h8 h9 h10 h11 h; (repeat ((repeat1' (first | simp -implicitDefEqProofs -dsimp only [go_sem, h1, h2, h3, h4, h5, h6, h7, h8, h9, h10, h11] | simp -dsimp (disch := omega) only [wrap_i64])); repeat (with_reducible refine And.intro ?_ ?_; focus (first | omega | with_reducible rfl | (show cc _ = true; kernel_rfl) | (simp only [ay, bf, List.length_append, List.length_cons, List.length_nil, List.all_append, List.all_cons, List.all_nil, ch, Nat.mul_one, Nat.one_mul, Bool.and_self]; first | done | omega) | (simp only [ByteArray.size_append, cg, List.size_toArray, List.length_cons, List.length_nil]; omega))))); exact h.o) : p := hq h1 h2 h3 h4 h5 h6 h7 h8 h9 h10 h11 ⟨h⟩
end Go.Lv
end
section
set_option maxRecDepth 100000
set_option maxHeartbeats 2000000
namespace Go.Proofs
open Go.Lv
theorem fa {c : Cur} {a b : Int} (h : c.le a) (hab : a ≤ b) : c.le b := ⟨h.1, Int.le_trans h.2 hab⟩
def asl (B : List Int) (b : Nat) (k : Int) (r : V) (hout : Hp) : Prop := ∃ (s : ByteArray) (c : Cur), s.size ≤ b ∧ c.le k ∧ r = .str s ∧ hout = [some (c.cs B)]
theorem qj {B : List Int} {b : Nat} {k : Int} {h : Hp} {x : ByteArray} {c : Cur} (h0 : h[0]? = some (some (c.cs B))) (hx : x.size ≤ b) (hc : c.le k) : yl 1 (.str x) h (asl B b k) := by
 refine ⟨_, _, ⟨x, c, hx, hc, rfl, rfl⟩, aj.pick [0] (by decide) (fun j hj => by cases j <;> simp_all) (.inl rfl) ?_⟩
 simp only [az, List.map_cons, List.map_nil, bg, h0, Cur.ren]
theorem aom {B : List Int} (hB : CB B) {k : Int} (hk : k ≤ 1000000) {c : Cur} (hc : c.le k) (t w : ByteArray) (ht : t.size ≤ 1000000) (hw : 1 ≤ w.size ∧ w.size ≤ 100) : lr Tryz.prog 32 [.ptr 0 0, .str t, .str w] [some (c.cs B)] (asl B (t.size + 1) (k + 20)) := by
 have hcb : ∀ {c' : Cur} {k' : Int}, c'.le k' → k' ≤ 4000000 → c'.le 4611686018427387903 := fun h h' => ⟨h.1, by have := h.2; omega⟩
 refine lr.intro Tryz.mixed Tryz.func32 rfl Tryz.a55 ?_
 refine ev2 @Tryz.ntmps32 @Tryz.results32 ?_
 refine rs0 ?_
 refine aw.split (fun h1 => ?_) (fun h1 => ?_)
 · refine rs1 @h1 ?_
   exact qj rfl (by rw [ByteArray.size_extract]; omega) (fa hc (by omega))
 · refine rs1 @h1 ?_
   have ht0 : 0 < t.size := by
    rcases Nat.eq_zero_or_pos t.size with h | h
    · have : t = ByteArray.empty := by
       apply ByteArray.ext
       exact Array.eq_empty_of_size_eq_zero h
      subst this
      simp at h1
    · exact h
   refine gj hB hc (by omega) (t.size : Int) (by omega) rfl (fun vc1 c1 pvc1 hc1 => ?_)
   refine rs1 @Cur.ren ?_
   refine gj hB hc1 (by omega) (w.size : Int) (by omega) rfl (fun vc2 c2 pvc2 hc2 => ?_)
   refine rs1 @Cur.ren ?_
   obtain ⟨i, hi⟩ : ∃ i : Nat, vc1 = i := ⟨vc1.toNat, by omega⟩
   obtain ⟨j, hj⟩ : ∃ j : Nat, vc2 = j := ⟨vc2.toNat, by omega⟩
   subst hi hj
   have hx0 : (w.extract j w.size).size = w.size - j := by rw [ByteArray.size_extract]; omega
   have hx1 : ((w.extract j w.size).extract 0 1).size = 1 := by rw [ByteArray.size_extract, hx0]; omega
   simp only [Int.toNat_natCast]
   refine ⟨by omega, ?_⟩
   generalize (w.extract j w.size).extract 0 1 = x at hx1 ⊢
   refine gj hB hc2 (by omega) 3 (by omega) rfl (fun vc3 c3 pvc3 hc3 => ?_)
   have hi1 : IntKind.i64.wrap ((i : Int) + 1) = ((i + 1 : Nat) : Int) := by rw [wrap_i64 (by omega) (by omega)]; omega
   have e1 : (t.extract 0 i).size = i := by rw [ByteArray.size_extract]; omega
   have e2 : (t.extract i t.size).size = t.size - i := by rw [ByteArray.size_extract]; omega
   have e3 : (t.extract (i + 1) t.size).size = t.size - (i + 1) := by rw [ByteArray.size_extract]; omega
   refine rs1 @Cur.ren ?_
   refine aw.split (fun h2 => ?_) (fun h2 => ?_)
   · refine rs3 @h2 @hi1 @Int.toNat_natCast ?_
     exact qj rfl (by simp only [ByteArray.size_append]; omega) (fa hc3 (by omega))
   · refine rs1 @h2 ?_
     refine aw.split (fun h3 => ?_) (fun h3 => ?_)
     · refine rs3 @h3 @hi1 @Int.toNat_natCast ?_
       exact qj rfl (by simp only [ByteArray.size_append]; omega) (fa hc3 (by omega))
     · refine rs3 @h3 @hi1 @Int.toNat_natCast ?_
       exact qj rfl (by simp only [ByteArray.size_append]; omega) (fa hc3 (by omega))
end Go.Proofs
end
section
set_option maxRecDepth 100000
namespace Go.Proofs
open Go.Lv
def StringS.cs (x : ByteArray) : List V := [.str x]
instance : r3 StringS.cs 1 := ⟨fun _ => rfl, fun _ d => by cases d <;> rfl, fun _ => rfl, fun _ => rfl⟩
theorem StringS.csl (a : ByteArray) : (StringS.cs a).length = 1 := rfl
abbrev StringS.ok (x : ByteArray) : Prop := ar4 x
abbrev StringS.sl (L : List ByteArray) : V := .sl L.length 1 (Go.Lv.rows StringS.cs L)
abbrev StringS.zs : List V := [.str ByteArray.empty]
abbrev StringS.v (x : ByteArray) : V := .str x
end Go.Proofs
end
section
set_option maxRecDepth 100000
set_option maxHeartbeats 2000000
namespace Go.Proofs
open Go.Lv
def ofV (B : List Int) (K : List ByteArray) (c : Cur) : ByteArray := K.getD (iy B K.length c).toNat ByteArray.empty
theorem xr {B : List Int} (hB : CB B) {K : List ByteArray} (hK : 0 < K.length) {c : Cur} (h : 0 ≤ c.a) : ofV B K c ∈ K := by
 obtain ⟨h1, h2⟩ := fb hB (n := K.length) h
 have hi : (iy B K.length c).toNat < K.length := by omega
 simp [ofV, List.getD, hi]
theorem agf {B : List Int} (hB : CB B) {c : Cur} (hc : c.le 4611686018427387903) (K : List ByteArray) (hK0 : 0 < K.length) (hK : K.length ≤ 1000000000) : Ctr Tryz.prog 64 [.ptr 0 0, .osl 1 0 K.length 1] [some (c.cs B), some (rows StringS.cs K)] (.str (ofV B K c)) [some ((fj B K.length c).cs B), some (rows StringS.cs K)] := by
 obtain ⟨h1, h2⟩ := fb hB (n := K.length) hc.1
 obtain ⟨i, hi'⟩ : ∃ i : Nat, iy B K.length c = i := ⟨(iy B K.length c).toNat, by omega⟩
 have hi : i < K.length := by omega
 have hr := bw StringS.csl hi
 have e : ofV B K c = K[i] := by simp [ofV, hi', List.getD, hi]
 have hp := j6 hB hc K.length (by omega)
 rw [hi'] at hp
 rw [e]
 refine Ctr.intro Tryz.mixed Tryz.func64 rfl Tryz.a4h ?_
 refine ev2 @Tryz.ntmps64 @Tryz.results64 ?_
 refine rn0 ?_
 refine ai.dp [0] false hp (by decide) ⟨leO, leO, trivial⟩ (dm rfl) (il B _ _) (.inl rfl) ?_
 refine rn3 @Cur.ren @hr @StringS.cs.eq_1 ?_
 exact aj.refl _ _ _
theorem wu {K : List ByteArray} {v : ByteArray} (h : v ∈ K) (hk : K.all (fun x => decide (x.size ≤ 100)) = true) : v.size ≤ 100 := by
 have := List.all_eq_true.1 hk v h
 simpa using this
end Go.Proofs
end
