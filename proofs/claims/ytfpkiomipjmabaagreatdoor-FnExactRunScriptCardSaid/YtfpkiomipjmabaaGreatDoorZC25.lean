/-
  A part of the proof: texts put together by a program of the prover. Conditions: none.
-/
import Derived.Test.YtfpkiomipjmabaaGreatDoorZC20
set_option linter.unusedSimpArgs false
set_option linter.unusedVariables false
section
set_option maxRecDepth 100000
set_option maxHeartbeats 4000000
namespace Go.Proofs
open Go.Lv
theorem frzC (c : ai) (r : ByteArray) : al 0 (.tup [c.o 0 1, .str r]) [some (rows az.cs c.ab.Posts), some (rows an.cs c.ab.Shocks)] (.tup [c.v, .str r]) [] := by
 refine al.pick [] (by decide) (fun j hj => by omega) (.inl ?_) rfl
 have e1 := e9 (cs := az.cs) c.ab.Posts
 have e2 := e9 (cs := an.cs) c.ab.Shocks
 simp [ai.o, ai.v, ren, bg, posOf, sx, ae] at e1 e2 ⊢
 exact ⟨e1.symm, e2.symm⟩
theorem afy (c : ai) (line : ByteArray) (hc : c.fits) (hl : line.size ≤ 4194304) : Ctr Tryz.prog 33 [c.v, .str line] [] (.tup [(dj c line).1.v, .str (dj c line).2]) [] :=
 (ajv c line hc hl).rn (frzC _ _)
def ai.sz (c : ai) (n : Nat) : Prop := c.ab.Posts.length ≤ 1048576 ∧ c.ab.Shocks.length ≤ 1048576 ∧ c.Log.Durable.size ≤ 1048576 ∧ c.Log.Pending.size ≤ 1048576 + 500 * n
theorem ai.vz {c : ai} {n : Nat} (h : c.sz n) (hn : n ≤ 5000) : c.fits := by
 obtain ⟨h0, h1, h2, h3⟩ := h
 exact ⟨h0, h1, by omega, by omega⟩
theorem ag7 {k : Int} {e : aw} (hk : 0 ≤ k ∧ k ≤ 59) (h : iw e = true) : (fu k e).size ≤ 500 := by
 have h1 := gb hk h
 have h2 := il (dh k e)
 rw [fu, ByteArray.size_append]
 have : (⟨#[10]⟩ : ByteArray).size = 1 := rfl
 omega
theorem am0 (l : Log) (e : aw) : (ago l e).Durable = l.Durable ∧ (ago l e).Pending.size ≤ l.Pending.size + 500 := by
 unfold ago
 split
 · rename_i h
   split
   · exact ⟨rfl, by omega⟩
   · rename_i h60
     have hc := xq h.1
     refine ⟨rfl, ?_⟩
     have := ag7 (k := l.Count) (by omega) h.2
     rw [ByteArray.size_append]; omega
 · exact ⟨rfl, by omega⟩
theorem aiz {c : ai} {line : ByteArray} {n : Nat} (h : c.sz n) : (dj c line).1.sz (n + 1) := by
 obtain ⟨h0, h1, h2, h3⟩ := h
 have hk : c.sz (n + 1) := ⟨h0, h1, h2, by omega⟩
 unfold dj
 split
 · exact hk
 · rename_i hb
   split
   · exact hk
   · split
     · exact hk
     · have W := dt (ab6 (line := line) (r8 (c := c) (by simpa using hb)).1)
       have p := W.plen
       have s := W.slen
       obtain ⟨d, q⟩ := am0 c.Log ⟨line, l6 (dm c.ab line).2⟩
       exact ⟨by dsimp only; omega, by dsimp only; omega, by dsimp only; rw [d]; exact h2, by dsimp only; omega⟩
noncomputable def ajp (p : ai × List ByteArray) (l : ByteArray) : ai × List ByteArray := ((dj p.1 l).1, p.2 ++ [(dj p.1 l).2])
noncomputable def scr (c : ai) (L : List ByteArray) : ai × List ByteArray := L.foldl ajp (c, [])
theorem yz {c : ai} {L : List ByteArray} {i : Nat} (h : i < L.length) : scr c (L.take (i + 1)) = ajp (scr c (L.take i)) L[i] := by
 rw [List.take_succ_eq_append_getElem h, scr, List.foldl_append]; rfl
theorem wh (c : ai) (L : List ByteArray) : ∀ i, i ≤ L.length → (scr c (L.take i)).2.length = i
 | 0, _ => rfl
 | i + 1, h => by
   rw [yz (show i < L.length by omega), ajp, List.length_append, wh c L i (by omega)]; rfl
theorem akn {c : ai} {L : List ByteArray} (h : c.sz 0) : ∀ i, i ≤ L.length → (scr c (L.take i)).1.sz i
 | 0, _ => h
 | i + 1, hi => by
   rw [yz (show i < L.length by omega)]
   exact aiz (akn h i (by omega))
noncomputable def atm (c : ai) (text : ByteArray) : Bool := ni c && (decide ((gw 10 text).length ≤ 30) && decide (text.size ≤ 4000))
noncomputable def l5 (c : ai) (text : ByteArray) : Option (List ByteArray) := if atm c text = true then some (scr c (gw 10 text)).2 else none
theorem abe {c : ai} {text : ByteArray} (h1 : ni c = true) (h2 : (gw 10 text).length ≤ 30) (h3 : text.size ≤ 4000) : l5 c text = some (scr c (gw 10 text)).2 := by
 rw [l5, atm, h1, decide_eq_true h2, decide_eq_true h3]; rfl
theorem ac0 {c : ai} {text : ByteArray} (h : ni c = false ∨ ¬ (gw 10 text).length ≤ 30 ∨ ¬ text.size ≤ 4000) : l5 c text = none := by
 rw [l5, atm]
 rcases h with h | h | h
 · rw [h]; rfl
 · rw [decide_eq_false h]; simp
 · rw [decide_eq_false h]; simp
theorem aen (c : ai) (text : ByteArray) (hc : c.sz 0) (hl : text.size ≤ 4194304) : Ctr Tryz.prog 40 [c.v, .str text] [] (ri 1 (l5 c text)) (ki StringS.cs (l5 c text)) := by
 have hcf := ai.vz hc (by omega)
 have hG := e7 c hcf
 have hsp := aas text 10 (by omega)
 have hsz : ∀ y ∈ gw 10 text, y.size ≤ text.size := fun y hy => rz 10 text hy
 have hno := ac0 (c := c) (text := text)
 have hyes := abe (c := c) (text := text)
 generalize gw 10 text = L at *
 cases h1 : ni c with
 | false =>
   rw [hno (.inl h1)]
   rw [h1] at hG
   refine Ctr.intro Tryz.mixed Tryz.func40 rfl Tryz.al4 ?_
   simp -implicitDefEqProofs -dsimp only [go_sem, Tryz.ntmps40, Tryz.results40]
   (repeat ((repeat1' (first | simp -implicitDefEqProofs -dsimp only [go_sem, ai.v] | simp -dsimp (disch := omega) only [wrap_i64])); repeat (with_reducible refine ah ?_)))
   (first | refine ak.at (hsp) ⟨leA, leA, trivial⟩ ?_ | refine aj.at (hsp) ⟨leA, leA, trivial⟩ ?_)
   (repeat ((repeat1' (first | simp -implicitDefEqProofs -dsimp only [go_sem] | simp -dsimp (disch := omega) only [wrap_i64])); repeat (with_reducible refine ah ?_)))
   (first | refine ak.at (hG) ⟨leA, trivial⟩ ?_ | refine aj.at (hG) ⟨leA, trivial⟩ ?_)
   (repeat ((repeat1' (first | simp -implicitDefEqProofs -dsimp only [go_sem] | simp -dsimp (disch := omega) only [wrap_i64])); repeat (with_reducible refine ah ?_)))
   exact al.ax rfl (by rfl)
 | true =>
   rw [h1] at hG
   by_cases h2 : L.length ≤ 30
   rotate_left
   · have d2 : decide (30 < (L.length : Int)) = true := decide_eq_true (by omega)
     rw [hno (.inr (.inl h2))]
     refine Ctr.intro Tryz.mixed Tryz.func40 rfl Tryz.al4 ?_
     simp -implicitDefEqProofs -dsimp only [go_sem, Tryz.ntmps40, Tryz.results40]
     (repeat ((repeat1' (first | simp -implicitDefEqProofs -dsimp only [go_sem, ai.v] | simp -dsimp (disch := omega) only [wrap_i64])); repeat (with_reducible refine ah ?_)))
     (first | refine ak.at (hsp) ⟨leA, leA, trivial⟩ ?_ | refine aj.at (hsp) ⟨leA, leA, trivial⟩ ?_)
     (repeat ((repeat1' (first | simp -implicitDefEqProofs -dsimp only [go_sem] | simp -dsimp (disch := omega) only [wrap_i64])); repeat (with_reducible refine ah ?_)))
     (first | refine ak.at (hG) ⟨leA, trivial⟩ ?_ | refine aj.at (hG) ⟨leA, trivial⟩ ?_)
     (repeat ((repeat1' (first | simp -implicitDefEqProofs -dsimp only [go_sem, d2] | simp -dsimp (disch := omega) only [wrap_i64])); repeat (with_reducible refine ah ?_)))
     exact al.ax rfl (by rfl)
   have d2 : decide (30 < (L.length : Int)) = false := decide_eq_false (by omega)
   by_cases h3 : text.size ≤ 4000
   rotate_left
   · have d3 : decide (4000 < (text.size : Int)) = true := decide_eq_true (by omega)
     rw [hno (.inr (.inr h3))]
     refine Ctr.intro Tryz.mixed Tryz.func40 rfl Tryz.al4 ?_
     simp -implicitDefEqProofs -dsimp only [go_sem, Tryz.ntmps40, Tryz.results40]
     (repeat ((repeat1' (first | simp -implicitDefEqProofs -dsimp only [go_sem, ai.v] | simp -dsimp (disch := omega) only [wrap_i64])); repeat (with_reducible refine ah ?_)))
     (first | refine ak.at (hsp) ⟨leA, leA, trivial⟩ ?_ | refine aj.at (hsp) ⟨leA, leA, trivial⟩ ?_)
     (repeat ((repeat1' (first | simp -implicitDefEqProofs -dsimp only [go_sem] | simp -dsimp (disch := omega) only [wrap_i64])); repeat (with_reducible refine ah ?_)))
     (first | refine ak.at (hG) ⟨leA, trivial⟩ ?_ | refine aj.at (hG) ⟨leA, trivial⟩ ?_)
     (repeat ((repeat1' (first | simp -implicitDefEqProofs -dsimp only [go_sem, d2, d3] | simp -dsimp (disch := omega) only [wrap_i64])); repeat (with_reducible refine ah ?_)))
     exact al.ax rfl (by rfl)
   have d3 : decide (4000 < (text.size : Int)) = false := decide_eq_false (by omega)
   rw [hyes h1 h2 h3]
   refine Ctr.intro Tryz.mixed Tryz.func40 rfl Tryz.al4 ?_
   simp -implicitDefEqProofs -dsimp only [go_sem, Tryz.ntmps40, Tryz.results40]
   (repeat ((repeat1' (first | simp -implicitDefEqProofs -dsimp only [go_sem, ai.v] | simp -dsimp (disch := omega) only [wrap_i64])); repeat (with_reducible refine ah ?_)))
   (first | refine ak.at (hsp) ⟨leA, leA, trivial⟩ ?_ | refine aj.at (hsp) ⟨leA, leA, trivial⟩ ?_)
   (repeat ((repeat1' (first | simp -implicitDefEqProofs -dsimp only [go_sem] | simp -dsimp (disch := omega) only [wrap_i64])); repeat (with_reducible refine ah ?_)))
   (first | refine ak.at (hG) ⟨leA, trivial⟩ ?_ | refine aj.at (hG) ⟨leA, trivial⟩ ?_)
   (repeat ((repeat1' (first | simp -implicitDefEqProofs -dsimp only [go_sem, d2, d3] | simp -dsimp (disch := omega) only [wrap_i64])); repeat (with_reducible refine ah ?_)))
   refine cw.intro (fun i : Nat => i ≤ L.length) (fun i => ⟨[.undef, .undef, .ptr 0 0, .undef, .undef, .undef, .undef, .osl 1 0 i 1, .undef, .undef, .undef, .undef, .undef, .undef, .undef, .undef, .undef, .undef, .undef, .undef, .undef, .undef, .undef, .undef, .undef, .undef, .undef, StringS.sl L, .int .i64 L.length, .int .i64 i, .undef, .undef, .undef, .undef, .undef, .undef, .undef, .undef, .undef, .undef, .undef, .undef, .undef, .undef, .undef], [some (scr c (L.take i)).1.cs, some (rows StringS.cs (scr c (L.take i)).2)], 0⟩) (fun i => L.length - i) 0 (Nat.zero_le _) ?_ (fun i hi => ?_)
   · refine br.cut (2) (by simp) (by simp) ?_ ?_
     · simp [LeC, LeV, ren, bm]
     · rfl
   simp -implicitDefEqProofs -dsimp only [go_sem]
   refine bd.split (fun g1 => ?_) (fun g1 => ?_)
   · have hi' : i < L.length := by have := of_decide_eq_true g1; omega
     have hr := bt StringS.csl hi'
     have hst := yz (c := c) hi'
     have hlen := wh c L i hi
     have hszi := akn hc i hi
     have hx := afy (scr c (L.take i)).1 L[i] (ai.vz hszi (by omega)) (by have := hsz _ (List.getElem_mem hi'); omega)
     generalize scr c (L.take i) = p at *
     (repeat ((repeat1' (first | simp -implicitDefEqProofs -dsimp only [go_sem, g1, hr, StringS.cs, ai.cs] | simp -dsimp (disch := omega) only [wrap_i64])); repeat (with_reducible refine ah ?_)))
     (first | refine ak.at (hx) ⟨leA, leA, trivial⟩ ?_ | refine aj.at (hx) ⟨leA, leA, trivial⟩ ?_)
     (repeat ((repeat1' (first | simp -implicitDefEqProofs -dsimp only [go_sem, ai.v, ay, bb, Nat.mul_one, hlen] | simp -dsimp (disch := omega) only [wrap_i64])); repeat (with_reducible refine ah ?_)))
     refine ⟨i + 1, hi', ?_, by omega⟩
     rw [hst]
     refine br.cut (2) (by simp) (by simp) ?_ ?_
     · simp [LeC, LeV, ren, bm]
     · rw [ajp, ← dk]
       simp [cb, db, ren, bm, ae, cx, jk, StringS.cs, ai.cs]
   · have hi' : i = L.length := by have := of_decide_eq_false g1; omega
     subst hi'
     have hlen := wh c L L.length hi
     rw [List.take_length] at hlen
     (repeat ((repeat1' (first | simp -implicitDefEqProofs -dsimp only [go_sem, g1, List.take_length] | simp -dsimp (disch := omega) only [wrap_i64])); repeat (with_reducible refine ah ?_)))
     refine al.pick [1] (by decide) (fun j hj => by omega) (.inl ?_) ?_
     · simp only [ri, hlen]; rfl
     · simp [bc, bh, ki, ae]
theorem aew (c : ai) (text : ByteArray) (hc : c.sz 0) (hl : text.size ≤ 4194304) : Ctr Tryz.prog 41 [c.v, .str text] [] (tn 1 (l5 c text)) (lz StringS.cs (l5 c text)) := by
 have hcf := ai.vz hc (by omega)
 have hG := w3 c hcf
 have hsp := abg text 10 (by omega)
 rw [show (((10 : UInt8).toNat : Nat) : Int) = 10 from rfl] at hsp
 have hsz : ∀ y ∈ gw 10 text, y.size ≤ text.size := fun y hy => rz 10 text hy
 have hno := ac0 (c := c) (text := text)
 have hyes := abe (c := c) (text := text)
 generalize gw 10 text = L at *
 cases h1 : ni c with
 | false =>
   rw [hno (.inl h1)]
   rw [h1] at hG
   refine Ctr.intro Tryz.mixed Tryz.func41 rfl Tryz.amj ?_
   simp -implicitDefEqProofs -dsimp only [go_sem, Tryz.ntmps41, Tryz.results41]
   (repeat ((repeat1' (first | simp -implicitDefEqProofs -dsimp only [go_sem, ai.v] | simp -dsimp (disch := omega) only [wrap_i64])); repeat (with_reducible refine ah ?_)))
   (first | refine ak.at (hsp) ⟨leA, leA, trivial⟩ ?_ | refine aj.at (hsp) ⟨leA, leA, trivial⟩ ?_)
   (repeat ((repeat1' (first | simp -implicitDefEqProofs -dsimp only [go_sem] | simp -dsimp (disch := omega) only [wrap_i64])); repeat (with_reducible refine ah ?_)))
   (first | refine ak.at (hG) ⟨leA, trivial⟩ ?_ | refine aj.at (hG) ⟨leA, trivial⟩ ?_)
   (repeat ((repeat1' (first | simp -implicitDefEqProofs -dsimp only [go_sem] | simp -dsimp (disch := omega) only [wrap_i64])); repeat (with_reducible refine ah ?_)))
   refine al.pick [1] (by decide) (fun j hj => by omega) (.inl rfl) rfl
 | true =>
   rw [h1] at hG
   by_cases h3 : text.size ≤ 4000
   rotate_left
   · have d3 : decide (4000 < (text.size : Int)) = true := decide_eq_true (by omega)
     rw [hno (.inr (.inr h3))]
     refine Ctr.intro Tryz.mixed Tryz.func41 rfl Tryz.amj ?_
     simp -implicitDefEqProofs -dsimp only [go_sem, Tryz.ntmps41, Tryz.results41]
     (repeat ((repeat1' (first | simp -implicitDefEqProofs -dsimp only [go_sem, ai.v] | simp -dsimp (disch := omega) only [wrap_i64])); repeat (with_reducible refine ah ?_)))
     (first | refine ak.at (hsp) ⟨leA, leA, trivial⟩ ?_ | refine aj.at (hsp) ⟨leA, leA, trivial⟩ ?_)
     (repeat ((repeat1' (first | simp -implicitDefEqProofs -dsimp only [go_sem] | simp -dsimp (disch := omega) only [wrap_i64])); repeat (with_reducible refine ah ?_)))
     (first | refine ak.at (hG) ⟨leA, trivial⟩ ?_ | refine aj.at (hG) ⟨leA, trivial⟩ ?_)
     (repeat ((repeat1' (first | simp -implicitDefEqProofs -dsimp only [go_sem, d3] | simp -dsimp (disch := omega) only [wrap_i64])); repeat (with_reducible refine ah ?_)))
     refine al.pick [1] (by decide) (fun j hj => by omega) (.inl rfl) rfl
   have d3 : decide (4000 < (text.size : Int)) = false := decide_eq_false (by omega)
   by_cases h2 : L.length ≤ 30
   rotate_left
   · have d2 : decide (30 < (L.length : Int)) = true := decide_eq_true (by omega)
     rw [hno (.inr (.inl h2))]
     refine Ctr.intro Tryz.mixed Tryz.func41 rfl Tryz.amj ?_
     simp -implicitDefEqProofs -dsimp only [go_sem, Tryz.ntmps41, Tryz.results41]
     (repeat ((repeat1' (first | simp -implicitDefEqProofs -dsimp only [go_sem, ai.v] | simp -dsimp (disch := omega) only [wrap_i64])); repeat (with_reducible refine ah ?_)))
     (first | refine ak.at (hsp) ⟨leA, leA, trivial⟩ ?_ | refine aj.at (hsp) ⟨leA, leA, trivial⟩ ?_)
     (repeat ((repeat1' (first | simp -implicitDefEqProofs -dsimp only [go_sem] | simp -dsimp (disch := omega) only [wrap_i64])); repeat (with_reducible refine ah ?_)))
     (first | refine ak.at (hG) ⟨leA, trivial⟩ ?_ | refine aj.at (hG) ⟨leA, trivial⟩ ?_)
     (repeat ((repeat1' (first | simp -implicitDefEqProofs -dsimp only [go_sem, d2, d3] | simp -dsimp (disch := omega) only [wrap_i64])); repeat (with_reducible refine ah ?_)))
     refine al.pick [1] (by decide) (fun j hj => by omega) (.inl rfl) rfl
   have d2 : decide (30 < (L.length : Int)) = false := decide_eq_false (by omega)
   rw [hyes h1 h2 h3]
   refine Ctr.intro Tryz.mixed Tryz.func41 rfl Tryz.amj ?_
   simp -implicitDefEqProofs -dsimp only [go_sem, Tryz.ntmps41, Tryz.results41]
   (repeat ((repeat1' (first | simp -implicitDefEqProofs -dsimp only [go_sem, ai.v] | simp -dsimp (disch := omega) only [wrap_i64])); repeat (with_reducible refine ah ?_)))
   (first | refine ak.at (hsp) ⟨leA, leA, trivial⟩ ?_ | refine aj.at (hsp) ⟨leA, leA, trivial⟩ ?_)
   (repeat ((repeat1' (first | simp -implicitDefEqProofs -dsimp only [go_sem] | simp -dsimp (disch := omega) only [wrap_i64])); repeat (with_reducible refine ah ?_)))
   (first | refine ak.at (hG) ⟨leA, trivial⟩ ?_ | refine aj.at (hG) ⟨leA, trivial⟩ ?_)
   (repeat ((repeat1' (first | simp -implicitDefEqProofs -dsimp only [go_sem, d2, d3] | simp -dsimp (disch := omega) only [wrap_i64])); repeat (with_reducible refine ah ?_)))
   refine cw.intro (fun i : Nat => i ≤ L.length) (fun i => ⟨[.undef, .undef, .ptr 0 0, .undef, .undef, .undef, .osl 1 0 i 1, StringS.sl L, .undef, .int .i64 i, .undef, .undef, .undef, .undef, .undef, .undef, .undef, .undef, .undef, .undef, .undef, .undef, .undef, .undef, .undef, .undef, .undef, .undef, .undef, .undef, .undef, .undef, .undef, .undef, .undef, .undef, .undef, .undef, .undef, .undef, .undef, .undef, .undef, .undef, .undef, .undef, .undef], [some (scr c (L.take i)).1.cs, some (rows StringS.cs (scr c (L.take i)).2)], 0⟩) (fun i => L.length - i) 0 (Nat.zero_le _) ?_ (fun i hi => ?_)
   · refine br.cut (2) (by simp) (by simp) ?_ ?_
     · simp [LeC, LeV, ren, bm]
     · rfl
   simp -implicitDefEqProofs -dsimp only [go_sem]
   refine bd.split (fun g1 => ?_) (fun g1 => ?_)
   · have hi' : i < L.length := by have := of_decide_eq_true g1; omega
     have hr := bt StringS.csl hi'
     have hst := yz (c := c) hi'
     have hlen := wh c L i hi
     have hszi := akn hc i hi
     have hx := aj0 (scr c (L.take i)).1 L[i] (ai.vz hszi (by omega)) (by have := hsz _ (List.getElem_mem hi'); omega)
     generalize scr c (L.take i) = p at *
     (repeat ((repeat1' (first | simp -implicitDefEqProofs -dsimp only [go_sem, g1, hr, StringS.cs, ai.cs] | simp -dsimp (disch := omega) only [wrap_i64])); repeat (with_reducible refine ah ?_)))
     (first | refine ak.at (hx) ⟨leA, leA, trivial⟩ ?_ | refine aj.at (hx) ⟨leA, leA, trivial⟩ ?_)
     (repeat ((repeat1' (first | simp -implicitDefEqProofs -dsimp only [go_sem, ai.v, ay, bb, Nat.mul_one, hlen] | simp -dsimp (disch := omega) only [wrap_i64])); repeat (with_reducible refine ah ?_)))
     refine ⟨i + 1, hi', ?_, by omega⟩
     rw [hst]
     refine br.cut (2) (by simp) (by simp) ?_ ?_
     · simp [LeC, LeV, ren, bm]
     · rw [ajp, ← dk]
       simp [cb, db, ren, bm, ae, cx, jk, StringS.cs, ai.cs]
   · have hi' : i = L.length := by have := of_decide_eq_false g1; omega
     subst hi'
     have hlen := wh c L L.length hi
     rw [List.take_length] at hlen
     (repeat ((repeat1' (first | simp -implicitDefEqProofs -dsimp only [go_sem, g1, List.take_length] | simp -dsimp (disch := omega) only [wrap_i64])); repeat (with_reducible refine ah ?_)))
     refine al.pick [1] (by decide) (fun j hj => by omega) (.inl ?_) ?_
     · simp only [tn, hlen]; rfl
     · simp [bc, bh, lz, ae]
end Go.Proofs
end
