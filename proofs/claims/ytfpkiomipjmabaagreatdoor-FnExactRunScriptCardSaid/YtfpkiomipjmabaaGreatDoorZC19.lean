/-
  A part of the proof: texts put together by a program of the prover. Conditions: none.
-/
import Derived.Test.YtfpkiomipjmabaaGreatDoorZC16
import Derived.Test.YtfpkiomipjmabaaGreatDoorZC18
set_option linter.unusedSimpArgs false
set_option linter.unusedVariables false
section
set_option maxRecDepth 100000
set_option maxHeartbeats 4000000
namespace Go.Proofs
open Go.Lv
theorem aas (s : ByteArray) (c : UInt8) (hs : s.size ≤ 16777216) : Ctr Tryz.prog 66 [.str s, .str ⟨#[c]⟩] [] (StringS.sl (gw c s)) [] :=
 (apb s c hs).rn (by
   refine al.pick [] (by decide) (fun j hj => by omega) (.inl ?_) rfl
   have e := e9 (cs := StringS.cs) (gw c s)
   simp [ren, bg, posOf, sx, ae] at e ⊢
   exact e.symm)
noncomputable def yj (w : ab) (line : ByteArray) : Option ab := match td (gw 32 line).tail with
 | none => none
 | some ns => match jc (kwd ((gw 32 line).headD ⟨#[]⟩)) ns with
   | some (k, n, v) => fa w k n v
   | none => none
theorem aip (w : ab) (line : ByteArray) : (dm w line).1 = (yj w line).getD w := by
 unfold dm yj
 cases td (gw 32 line).tail with
 | none => rfl
 | some ns =>
   dsimp only
   unfold l9
   cases jc (kwd ((gw 32 line).headD ⟨#[]⟩)) ns with
   | none => cases ns with
     | nil => rfl
     | cons a l => cases l <;> rfl
   | some p =>
     obtain ⟨k, n, v⟩ := p
     dsimp only
     unfold lb
     cases fa w k n v <;> rfl
theorem aj1 {w : ab} {q : Nat} (h : jc q [] = none) : l9 w q [] = (w, (xd w q).getD wQ) := by unfold l9; rw [h]
theorem ajb {w : ab} {q : Nat} {n : Int} (h : jc q [n] = none) : l9 w q [n] = (w, if q = 9 then (abq w n).getD wQ else wQ) := by unfold l9; rw [h]
theorem acs {w : ab} {q : Nat} {a b : Int} {L : List Int} (h : jc q (a :: b :: L) = none) : l9 w q (a :: b :: L) = (w, wQ) := by unfold l9; rw [h]
theorem alm (c : ai) (line : ByteArray) (hl : line.size ≤ 1000) (hw : wB c.ab = true) (hs : yj c.ab line = none) : Ctr Tryz.prog 95 [.ptr 0 0, .str line] [some (c.oc 1 2), some (rows az.cs c.ab.Posts), some (rows an.cs c.ab.Shocks)] (.str (dm c.ab line).2) [some (c.oc 1 2), some (rows az.cs c.ab.Posts), some (rows an.cs c.ab.Shocks)] := by
 have W := dt hw
 have pl := W.plen
 have sl := W.slen
 obtain ⟨x, T, hS⟩ := zu 32 line
 have hT : (gw 32 line).tail = T := by rw [hS]; rfl
 have hx : (gw 32 line).headD ⟨#[]⟩ = x := by rw [hS]; rfl
 have hsp := aas line 32 (by omega)
 have hlen := aef 32 line
 have hsz : ∀ y ∈ x :: T, y.size ≤ line.size := fun y hy => rz 32 line (by rw [hS]; exact hy)
 rw [hS] at hsp hlen
 simp only [List.length_cons] at hlen
 have hr0 : (rows StringS.cs (x :: T)).take 1 = [.str x] := rfl
 have hr1 : (rows StringS.cs (x :: T)).drop 1 = rows StringS.cs T := rfl
 refine Ctr.intro Tryz.mixed Tryz.func95 rfl Tryz.au8 ?_
 simp -implicitDefEqProofs -dsimp only [go_sem, Tryz.ntmps95, Tryz.results95]
 (first | refine ak.at (hsp) ⟨leA, leA, trivial⟩ ?_ | refine aj.at (hsp) ⟨leA, leA, trivial⟩ ?_)
 (repeat ((repeat1' (first | simp -implicitDefEqProofs -dsimp only [go_sem, hr1] | simp -dsimp (disch := omega) only [wrap_i64])); repeat (with_reducible refine ah ?_)))
 refine cw.intro (fun i : Nat => i ≤ T.length ∧ (T.take i).all (fun s => (cq s).isSome) = true) (fun i => ⟨[.ptr 0 0, .undef, .undef, .undef, .undef, StringS.sl (x :: T), .osl 3 0 i 1, .undef, .undef, .undef, .undef, .undef, .undef, .undef, .undef, .undef, .undef, .undef, .undef, StringS.sl T, .int .i64 T.length, .int .i64 i, .undef, .undef, .undef, .undef, .undef, .undef, .undef, .undef, .undef, .undef, .undef, .undef, .undef, .undef, .undef, .undef, .undef, .undef, .undef, .undef, .undef, .undef, .undef, .undef, .undef, .undef, .undef, .undef, .undef, .undef, .undef, .undef, .undef, .undef, .undef, .undef, .undef, .undef, .undef, .undef, .undef, .undef, .undef, .undef, .undef, .undef, .undef, .undef, .undef, .undef, .undef, .undef, .undef, .undef, .undef, .undef, .undef, .undef, .undef, .undef, .undef, .undef, .undef, .undef, .undef, .undef, .undef], [some (c.oc 1 2), some (rows az.cs c.ab.Posts), some (rows an.cs c.ab.Shocks), some (rows IntS.cs ((T.take i).map fun s => (cq s).getD 0))], 3⟩) (fun i => T.length - i) 0 ⟨Nat.zero_le _, rfl⟩ ?_ (fun i hi => ?_)
 · refine br.cut (4) (by simp) (by simp) ?_ ?_
   · simp [LeC, LeV, ren, bm]
   · simp [cb, db, ren, bm, ae, ai.oc, adx]
 simp -implicitDefEqProofs -dsimp only [go_sem]
 refine bd.split (fun h1 => ?_) (fun h1 => ?_)
 · have hi' : i < T.length := by have := of_decide_eq_true h1; omega
   have hr := bt StringS.csl hi'
   have hst : (T.take (i + 1)).map (fun s => (cq s).getD 0) = (T.take i).map (fun s => (cq s).getD 0) ++ [(cq T[i]).getD 0] := by rw [List.take_succ_eq_append_getElem hi', List.map_append]; rfl
   have hlen2 : ((T.take i).map fun s => (cq s).getD 0).length = i := by simp; omega
   have ip := x6 T[i] (by have := hsz T[i] (List.mem_cons_of_mem _ (List.getElem_mem hi')); omega)
   rw [jj] at ip
   (repeat ((repeat1' (first | simp -implicitDefEqProofs -dsimp only [go_sem, h1, hr, StringS.cs] | simp -dsimp (disch := omega) only [wrap_i64])); repeat (with_reducible refine ah ?_)))
   cases hread : (cq T[i]).isSome with
   | false =>
     have hno := z6 hi' hread
     have hrun : dm c.ab line = (c.ab, wQ) := by unfold dm; rw [hT, hno]
     rw [hread] at ip
     (first | refine ak.at (ip) ⟨leA, trivial⟩ ?_ | refine aj.at (ip) ⟨leA, trivial⟩ ?_)
     (repeat ((repeat1' (first | simp -implicitDefEqProofs -dsimp only [go_sem] | simp -dsimp (disch := omega) only [wrap_i64])); repeat (with_reducible refine ah ?_)))
     first
       | (rw [hrun]; refine al.pick [0, 1, 2] (by decide) (by decide) (.inl rfl) ?_; simp [bc, bh, ren, bg, posOf, ae, ai.oc]; done)
       | (exfalso; unfold yj at hs; rw [hT, hno] at hs; cases hs; done)
   | true =>
     rw [hread] at ip
     (first | refine ak.at (ip) ⟨leA, trivial⟩ ?_ | refine aj.at (ip) ⟨leA, trivial⟩ ?_)
     (repeat ((repeat1' (first | simp -implicitDefEqProofs -dsimp only [go_sem, ay, bb, Nat.mul_one, hlen2] | simp -dsimp (disch := omega) only [wrap_i64])); repeat (with_reducible refine ah ?_)))
     refine ⟨i + 1, ⟨hi', by rw [List.take_succ_eq_append_getElem hi', List.all_append, hi.2]; simp [hread]⟩, ?_, by omega⟩
     refine br.cut (4) (by simp) (by simp) ?_ ?_
     · simp [LeC, LeV, ren, bm]
     · rw [hst, ← dk]
       simp [cb, db, ren, bm, ae, cx, jk, IntS.cs, ai.oc]
 have hi' : i = T.length := by have := of_decide_eq_false h1; omega
 subst hi'
 have hnum := xm hi.2
 have hbd := aaq hnum
 rw [List.take_length]
 have hnl : (T.map fun s => (cq s).getD 0).length = T.length := List.length_map _
 simp only [← hnl]
 have hrun : dm c.ab line = l9 c.ab (kwd x) (T.map fun s => (cq s).getD 0) := by unfold dm; rw [hT, hnum, hx]
 have hstp : yj c.ab line = match jc (kwd x) (T.map fun s => (cq s).getD 0) with
   | some (k, n, v) => fa c.ab k n v
   | none => none := by unfold yj; rw [hT, hnum, hx]
 rw [hstp] at hs
 clear hstp hnum
 have hns : (T.map fun s => (cq s).getD 0).length ≤ 1000 := by omega
 generalize (T.map fun s => (cq s).getD 0) = ns at *
 have so := ae6 x ns (by omega)
 (repeat ((repeat1' (first | simp -implicitDefEqProofs -dsimp only [go_sem, h1, hr0] | simp -dsimp (disch := omega) only [wrap_i64])); repeat (with_reducible refine ah ?_)))
 (first | refine ak.at (so) ⟨leA, leA, trivial⟩ ?_ | refine aj.at (so) ⟨leA, leA, trivial⟩ ?_)
 have b9 := kwb9 x
 have ha := azo c x hw
 generalize kwd x = q at *
 cases hst : jc q ns with
 | some p =>
   obtain ⟨k, n, v⟩ := p
   rw [hst] at hs so
   have hs' : fa c.ab k n v = none := hs
   have hR : l9 c.ab q ns = (c.ab, wQ) := by unfold l9; rw [hst]; show lb c.ab k n v = _; rw [lb, hs']
   rw [hrun, hR]
   simp only [aav, Option.map_some, Option.getD_some, Option.isSome_some] at so
   have hC := amx c k n v hw hs'
   (repeat ((repeat1' (first | simp -implicitDefEqProofs -dsimp only [go_sem, aav, Option.map_some, Option.getD_some] | simp -dsimp (disch := omega) only [wrap_i64])); repeat (with_reducible refine ah ?_)))
   refine aj.qb [0, 1, 2] false hC (by decide) ⟨leO, leO, trivial⟩ (by simp [bc, bh, ren, bg, posOf, ae, ai.oc]) ⟨⟨rfl, rfl⟩, ⟨rfl, rfl⟩, ⟨rfl, rfl⟩, trivial⟩ (.inl rfl) ?_
   (repeat ((repeat1' (first | simp -implicitDefEqProofs -dsimp only [go_sem, ai.oc] | simp -dsimp (disch := omega) only [wrap_i64])); repeat (with_reducible refine ah ?_)))
   refine al.pick [0, 1, 2] (by decide) (by decide) (.inl rfl) ?_
   simp [bc, bh, ren, bg, posOf, gp, ae, ai.oc]
 | none =>
   rw [hst] at so
   rw [hrun]
   clear hrun hs
   have z00 : (((0 : Nat) : Int) == 0) = true := rfl
   have z01 : (((0 : Nat) : Int) == 1) = false := rfl
   have z02 : (((0 : Nat) : Int) == 2) = false := rfl
   have z10 : (((1 : Nat) : Int) == 0) = false := rfl
   have z11 : (((1 : Nat) : Int) == 1) = true := rfl
   have z12 : (((1 : Nat) : Int) == 2) = false := rfl
   have z20 : (((2 : Nat) : Int) == 0) = false := rfl
   have z21 : (((2 : Nat) : Int) == 1) = false := rfl
   have z22 : (((2 : Nat) : Int) == 2) = true := rfl
   rcases ns with _ | ⟨n1, _ | ⟨n2, L⟩⟩
   · rw [aj1 hst]
     have c9 : decide (q = 9) = true ∨ decide (q = 9) = false := by cases decide (q = 9) <;> simp
     rcases c9 with c9 | c9
     all_goals
       (repeat ((repeat1' (first | simp -implicitDefEqProofs -dsimp only [go_sem, aav, Option.map_none, Option.getD_none, b9, c9, hr0, z00, z01, z02, z10, z11, z12, z20, z21, z22] | simp -dsimp (disch := omega) only [wrap_i64])); repeat (with_reducible refine ah ?_)))
       refine aj.qb [0, 1, 2] false ha (by decide) ⟨leO, leO, trivial⟩ (by simp [bc, bh, ren, bg, posOf, ae, ai.oc]) ⟨⟨rfl, rfl⟩, ⟨rfl, rfl⟩, ⟨rfl, rfl⟩, trivial⟩ (.inl rfl) ?_
       (repeat ((repeat1' (first | simp -implicitDefEqProofs -dsimp only [go_sem] | simp -dsimp (disch := omega) only [wrap_i64])); repeat (with_reducible refine ah ?_)))
       cases hA : xd c.ab q with
       | none =>
         (repeat ((repeat1' (first | simp -implicitDefEqProofs -dsimp only [go_sem] | simp -dsimp (disch := omega) only [wrap_i64])); repeat (with_reducible refine ah ?_)))
         refine al.pick [0, 1, 2] (by decide) (by decide) (.inl rfl) ?_
         simp [bc, bh, ren, bg, posOf, gp, ae, ai.oc]
       | some y =>
         rw [at0 hA]
         (repeat ((repeat1' (first | simp -implicitDefEqProofs -dsimp only [go_sem] | simp -dsimp (disch := omega) only [wrap_i64])); repeat (with_reducible refine ah ?_)))
         refine al.pick [0, 1, 2] (by decide) (by decide) (.inl rfl) ?_
         simp [bc, bh, ren, bg, posOf, gp, ae, ai.oc]
   · rw [ajb hst]
     have hn1 := hbd n1 (by simp)
     have hr3 : rows IntS.cs [n1] = [.int .i64 n1] := rfl
     have hT9 := w2 c.ab n1 (by omega) (by omega)
     rw [aap hw] at hT9
     by_cases c9 : q = 9
     · have d9 : decide (q = 9) = true := decide_eq_true c9
       rw [if_pos c9]
       (repeat ((repeat1' (first | simp -implicitDefEqProofs -dsimp only [go_sem, aav, Option.map_none, Option.getD_none, b9, d9, hr3, hr0, ai.oc, z00, z01, z02, z10, z11, z12, z20, z21, z22] | simp -dsimp (disch := omega) only [wrap_i64])); repeat (with_reducible refine ah ?_)))
       (first | refine ak.at (hT9) ⟨leA, leA, trivial⟩ ?_ | refine aj.at (hT9) ⟨leA, leA, trivial⟩ ?_)
       (repeat ((repeat1' (first | simp -implicitDefEqProofs -dsimp only [go_sem] | simp -dsimp (disch := omega) only [wrap_i64])); repeat (with_reducible refine ah ?_)))
       cases hA : abq c.ab n1 with
       | none =>
         (repeat ((repeat1' (first | simp -implicitDefEqProofs -dsimp only [go_sem] | simp -dsimp (disch := omega) only [wrap_i64])); repeat (with_reducible refine ah ?_)))
         refine al.pick [0, 1, 2] (by decide) (by decide) (.inl rfl) ?_
         simp [bc, bh, ren, bg, posOf, gp, ae, ai.oc]
       | some y =>
         (repeat ((repeat1' (first | simp -implicitDefEqProofs -dsimp only [go_sem] | simp -dsimp (disch := omega) only [wrap_i64])); repeat (with_reducible refine ah ?_)))
         refine al.pick [0, 1, 2] (by decide) (by decide) (.inl rfl) ?_
         simp [bc, bh, ren, bg, posOf, gp, ae, ai.oc]
     · have d9 : decide (q = 9) = false := decide_eq_false c9
       rw [if_neg c9]
       (repeat ((repeat1' (first | simp -implicitDefEqProofs -dsimp only [go_sem, aav, Option.map_none, Option.getD_none, b9, d9, hr3, hr0, z00, z01, z02, z10, z11, z12, z20, z21, z22] | simp -dsimp (disch := omega) only [wrap_i64])); repeat (with_reducible refine ah ?_)))
       refine al.pick [0, 1, 2] (by decide) (by decide) (.inl rfl) ?_
       simp [bc, bh, ren, bg, posOf, gp, ae, ai.oc]
   · rw [acs hst]
     clear hst
     have c1 : (((n1 :: n2 :: L).length : Int) == 1) = false := by simp; omega
     have c0 : (((n1 :: n2 :: L).length : Int) == 0) = false := by simp; omega
     generalize n1 :: n2 :: L = ns at *
     have c9 : decide (q = 9) = true ∨ decide (q = 9) = false := by cases decide (q = 9) <;> simp
     rcases c9 with c9 | c9
     all_goals
       (repeat ((repeat1' (first | simp -implicitDefEqProofs -dsimp only [go_sem, aav, Option.map_none, Option.getD_none, b9, c9, hr0, c1, c0] | simp -dsimp (disch := omega) only [wrap_i64])); repeat (with_reducible refine ah ?_)))
       refine al.pick [0, 1, 2] (by decide) (by decide) (.inl rfl) ?_
       simp [bc, bh, ren, bg, posOf, gp, ae, ai.oc]
theorem aib (c : ai) (b : ab) (line : ByteArray) (hl : line.size ≤ 1000) (hw : wB c.ab = true) (hs : yj c.ab line = some b) : Ctr Tryz.prog 95 [.ptr 0 0, .str line] [some (c.oc 1 2), some (rows az.cs c.ab.Posts), some (rows an.cs c.ab.Shocks)] (.str (dm c.ab line).2) [some ((cW c b).oc 3 4), some (rows az.cs c.ab.Posts), some (rows an.cs c.ab.Shocks), some (rows az.cs b.Posts), some (rows an.cs b.Shocks)] := by
 have W := dt hw
 have pl := W.plen
 have sl := W.slen
 obtain ⟨x, T, hS⟩ := zu 32 line
 have hT : (gw 32 line).tail = T := by rw [hS]; rfl
 have hx : (gw 32 line).headD ⟨#[]⟩ = x := by rw [hS]; rfl
 have hsp := aas line 32 (by omega)
 have hlen := aef 32 line
 have hsz : ∀ y ∈ x :: T, y.size ≤ line.size := fun y hy => rz 32 line (by rw [hS]; exact hy)
 rw [hS] at hsp hlen
 simp only [List.length_cons] at hlen
 have hr0 : (rows StringS.cs (x :: T)).take 1 = [.str x] := rfl
 have hr1 : (rows StringS.cs (x :: T)).drop 1 = rows StringS.cs T := rfl
 refine Ctr.intro Tryz.mixed Tryz.func95 rfl Tryz.au8 ?_
 simp -implicitDefEqProofs -dsimp only [go_sem, Tryz.ntmps95, Tryz.results95]
 (first | refine ak.at (hsp) ⟨leA, leA, trivial⟩ ?_ | refine aj.at (hsp) ⟨leA, leA, trivial⟩ ?_)
 (repeat ((repeat1' (first | simp -implicitDefEqProofs -dsimp only [go_sem, hr1] | simp -dsimp (disch := omega) only [wrap_i64])); repeat (with_reducible refine ah ?_)))
 refine cw.intro (fun i : Nat => i ≤ T.length ∧ (T.take i).all (fun s => (cq s).isSome) = true) (fun i => ⟨[.ptr 0 0, .undef, .undef, .undef, .undef, StringS.sl (x :: T), .osl 3 0 i 1, .undef, .undef, .undef, .undef, .undef, .undef, .undef, .undef, .undef, .undef, .undef, .undef, StringS.sl T, .int .i64 T.length, .int .i64 i, .undef, .undef, .undef, .undef, .undef, .undef, .undef, .undef, .undef, .undef, .undef, .undef, .undef, .undef, .undef, .undef, .undef, .undef, .undef, .undef, .undef, .undef, .undef, .undef, .undef, .undef, .undef, .undef, .undef, .undef, .undef, .undef, .undef, .undef, .undef, .undef, .undef, .undef, .undef, .undef, .undef, .undef, .undef, .undef, .undef, .undef, .undef, .undef, .undef, .undef, .undef, .undef, .undef, .undef, .undef, .undef, .undef, .undef, .undef, .undef, .undef, .undef, .undef, .undef, .undef, .undef, .undef], [some (c.oc 1 2), some (rows az.cs c.ab.Posts), some (rows an.cs c.ab.Shocks), some (rows IntS.cs ((T.take i).map fun s => (cq s).getD 0))], 3⟩) (fun i => T.length - i) 0 ⟨Nat.zero_le _, rfl⟩ ?_ (fun i hi => ?_)
 · refine br.cut (4) (by simp) (by simp) ?_ ?_
   · simp [LeC, LeV, ren, bm]
   · simp [cb, db, ren, bm, ae, ai.oc, adx]
 simp -implicitDefEqProofs -dsimp only [go_sem]
 refine bd.split (fun h1 => ?_) (fun h1 => ?_)
 · have hi' : i < T.length := by have := of_decide_eq_true h1; omega
   have hr := bt StringS.csl hi'
   have hst : (T.take (i + 1)).map (fun s => (cq s).getD 0) = (T.take i).map (fun s => (cq s).getD 0) ++ [(cq T[i]).getD 0] := by rw [List.take_succ_eq_append_getElem hi', List.map_append]; rfl
   have hlen2 : ((T.take i).map fun s => (cq s).getD 0).length = i := by simp; omega
   have ip := x6 T[i] (by have := hsz T[i] (List.mem_cons_of_mem _ (List.getElem_mem hi')); omega)
   rw [jj] at ip
   (repeat ((repeat1' (first | simp -implicitDefEqProofs -dsimp only [go_sem, h1, hr, StringS.cs] | simp -dsimp (disch := omega) only [wrap_i64])); repeat (with_reducible refine ah ?_)))
   cases hread : (cq T[i]).isSome with
   | false =>
     have hno := z6 hi' hread
     have hrun : dm c.ab line = (c.ab, wQ) := by unfold dm; rw [hT, hno]
     rw [hread] at ip
     (first | refine ak.at (ip) ⟨leA, trivial⟩ ?_ | refine aj.at (ip) ⟨leA, trivial⟩ ?_)
     (repeat ((repeat1' (first | simp -implicitDefEqProofs -dsimp only [go_sem] | simp -dsimp (disch := omega) only [wrap_i64])); repeat (with_reducible refine ah ?_)))
     first
       | (rw [hrun]; refine al.pick [0, 1, 2] (by decide) (by decide) (.inl rfl) ?_; simp [bc, bh, ren, bg, posOf, ae, ai.oc]; done)
       | (exfalso; unfold yj at hs; rw [hT, hno] at hs; cases hs; done)
   | true =>
     rw [hread] at ip
     (first | refine ak.at (ip) ⟨leA, trivial⟩ ?_ | refine aj.at (ip) ⟨leA, trivial⟩ ?_)
     (repeat ((repeat1' (first | simp -implicitDefEqProofs -dsimp only [go_sem, ay, bb, Nat.mul_one, hlen2] | simp -dsimp (disch := omega) only [wrap_i64])); repeat (with_reducible refine ah ?_)))
     refine ⟨i + 1, ⟨hi', by rw [List.take_succ_eq_append_getElem hi', List.all_append, hi.2]; simp [hread]⟩, ?_, by omega⟩
     refine br.cut (4) (by simp) (by simp) ?_ ?_
     · simp [LeC, LeV, ren, bm]
     · rw [hst, ← dk]
       simp [cb, db, ren, bm, ae, cx, jk, IntS.cs, ai.oc]
 have hi' : i = T.length := by have := of_decide_eq_false h1; omega
 subst hi'
 have hnum := xm hi.2
 have hbd := aaq hnum
 rw [List.take_length]
 have hnl : (T.map fun s => (cq s).getD 0).length = T.length := List.length_map _
 simp only [← hnl]
 have hrun : dm c.ab line = l9 c.ab (kwd x) (T.map fun s => (cq s).getD 0) := by unfold dm; rw [hT, hnum, hx]
 have hstp : yj c.ab line = match jc (kwd x) (T.map fun s => (cq s).getD 0) with
   | some (k, n, v) => fa c.ab k n v
   | none => none := by unfold yj; rw [hT, hnum, hx]
 rw [hstp] at hs
 clear hstp hnum
 have hns : (T.map fun s => (cq s).getD 0).length ≤ 1000 := by omega
 generalize (T.map fun s => (cq s).getD 0) = ns at *
 have so := ae6 x ns (by omega)
 (repeat ((repeat1' (first | simp -implicitDefEqProofs -dsimp only [go_sem, h1, hr0] | simp -dsimp (disch := omega) only [wrap_i64])); repeat (with_reducible refine ah ?_)))
 (first | refine ak.at (so) ⟨leA, leA, trivial⟩ ?_ | refine aj.at (so) ⟨leA, leA, trivial⟩ ?_)
 generalize kwd x = q at *
 cases hst : jc q ns with
 | some p =>
   obtain ⟨k, n, v⟩ := p
   rw [hst] at hs so
   have hs' : fa c.ab k n v = some b := hs
   have hR : l9 c.ab q ns = (b, (ke b k n).getD wQ) := by unfold l9; rw [hst]; show lb c.ab k n v = _; rw [lb, hs']
   rw [hrun, hR]
   have hC := ald c b k n v hs'
   (repeat ((repeat1' (first | simp -implicitDefEqProofs -dsimp only [go_sem, aav, Option.map_some, Option.getD_some] | simp -dsimp (disch := omega) only [wrap_i64])); repeat (with_reducible refine ah ?_)))
   refine aj.qb [0, 1, 2] false hC (by decide) ⟨leO, leO, trivial⟩ (by simp [bc, bh, ren, bg, posOf, ae, ai.oc]) ⟨⟨rfl, rfl⟩, ⟨rfl, rfl⟩, ⟨rfl, rfl⟩, trivial⟩ (.inl rfl) ?_
   (repeat ((repeat1' (first | simp -implicitDefEqProofs -dsimp only [go_sem, ai.oc] | simp -dsimp (disch := omega) only [wrap_i64])); repeat (with_reducible refine ah ?_)))
   cases hA : ke b k n with
   | none =>
     (repeat ((repeat1' (first | simp -implicitDefEqProofs -dsimp only [go_sem] | simp -dsimp (disch := omega) only [wrap_i64])); repeat (with_reducible refine ah ?_)))
     refine al.pick [0, 1, 2, 5, 6] (by decide) (by decide) (.inl rfl) ?_
     simp [bc, bh, ren, bg, posOf, gp, ae, ai.oc, cW]
   | some y =>
     (repeat ((repeat1' (first | simp -implicitDefEqProofs -dsimp only [go_sem] | simp -dsimp (disch := omega) only [wrap_i64])); repeat (with_reducible refine ah ?_)))
     refine al.pick [0, 1, 2, 5, 6] (by decide) (by decide) (.inl rfl) ?_
     simp [bc, bh, ren, bg, posOf, gp, ae, ai.oc, cW]
 | none =>
   rw [hst] at hs
   cases hs
end Go.Proofs
end
section
set_option maxRecDepth 100000
set_option maxHeartbeats 4000000
namespace Go.Proofs
open Go.Lv
def wNo : ByteArray := ⟨#[110, 111]⟩
def aty : ByteArray := ⟨#[98, 97, 100]⟩
def al8 : ByteArray := ⟨#[102, 117, 108, 108]⟩
def aaz : ByteArray := ⟨#[108, 111, 110, 103]⟩
def l6 (r : ByteArray) : ByteArray := if 200 < (r.size : Int) then aaz else r
def ago (l : Log) (e : aw) : Log := if nc l = true ∧ iw e = true then (if l.Count = 60 then l else ⟨l.Durable, l.Pending ++ fu l.Count e, l.Count + 1⟩) else l
theorem ah7 (l : Log) (e : aw) : ∃ z : Int, abo l e = [(ago l e).v, .int .i64 z] := by
 unfold abo ago
 split
 · split
   · exact ⟨_, rfl⟩
   · exact ⟨_, rfl⟩
 · exact ⟨_, rfl⟩
noncomputable def dj (c : ai) (line : ByteArray) : ai × ByteArray :=
 if ni c = false then (c, wNo) else if iw ⟨line, ByteArray.empty⟩ = false then (c, aty) else if c.Log.Count = 60 then (c, al8)
 else (⟨(dm c.ab line).1, ago c.Log ⟨line, l6 (dm c.ab line).2⟩⟩, l6 (dm c.ab line).2)
theorem aac {line : ByteArray} {r : ByteArray} (h : iw ⟨line, r⟩ = true) : line.size ≤ 160 := by
 simp only [iw, Bool.and_eq_true, decide_eq_true_eq] at h
 omega
theorem r8 {c : ai} (h : ni c = true) : wB c.ab = true ∧ nc c.Log = true := by
 simpa [ni] using h
theorem ajv (c : ai) (line : ByteArray) (hc : c.fits) (hl : line.size ≤ 4194304) : Ctr Tryz.prog 33 [c.v, .str line] [] (.tup [(dj c line).1.o 0 1, .str (dj c line).2]) [some (rows az.cs (dj c line).1.ab.Posts), some (rows an.cs (dj c line).1.ab.Shocks)] := by
 obtain ⟨f0, f1, f2, f3⟩ := hc
 have hc : c.fits := ⟨f0, f1, f2, f3⟩
 have he2 : (ByteArray.empty : ByteArray).size = 0 := rfl
 have hV := lr ⟨line, ByteArray.empty⟩ (by dsimp only; omega) (by dsimp only; omega)
 cases hb : ni c with
 | false =>
   rw [show dj c line = (c, wNo) by rw [dj, if_pos hb]]
   refine Ctr.intro Tryz.mixed Tryz.func33 rfl Tryz.aj6 ?_
   simp -implicitDefEqProofs -dsimp only [go_sem, Tryz.ntmps33, Tryz.results33]
   (repeat ((repeat1' (first | simp -implicitDefEqProofs -dsimp only [go_sem, ai.v] | simp -dsimp (disch := omega) only [wrap_i64])); repeat (with_reducible refine ah ?_)))
   (have ct := dc c.ab (by omega) (by omega); (first | refine ak.at ct ⟨leA, trivial⟩ ?_ | refine aj.at ct ⟨leA, trivial⟩ ?_); clear ct)
   (repeat ((repeat1' (first | simp -implicitDefEqProofs -dsimp only [go_sem, ab.o] | simp -dsimp (disch := omega) only [wrap_i64])); repeat (with_reducible refine ah ?_)))
   (have ct := e7 c hc; (first | refine ak.at ct ⟨leA, trivial⟩ ?_ | refine aj.at ct ⟨leA, trivial⟩ ?_); clear ct)
   rw [hb]
   (repeat ((repeat1' (first | simp -implicitDefEqProofs -dsimp only [go_sem] | simp -dsimp (disch := omega) only [wrap_i64])); repeat (with_reducible refine ah ?_)))
   refine al.pick [2, 3] (by decide) (fun j hj => by omega) (.inl ?_) ?_
   · first | rfl | (simp [ren, bg, posOf, ai.o]; done)
   · simp only [bc, List.map_cons, List.map_nil, bh, List.getElem?_cons_zero, List.getElem?_cons_succ, ae]
 | true =>
   cases hr : iw ⟨line, ByteArray.empty⟩ with
   | false =>
     rw [show dj c line = (c, aty) by rw [dj, if_neg (by simp [hb]), if_pos hr]]
     rw [hr] at hV
     refine Ctr.intro Tryz.mixed Tryz.func33 rfl Tryz.aj6 ?_
     simp -implicitDefEqProofs -dsimp only [go_sem, Tryz.ntmps33, Tryz.results33]
     (repeat ((repeat1' (first | simp -implicitDefEqProofs -dsimp only [go_sem, ai.v] | simp -dsimp (disch := omega) only [wrap_i64])); repeat (with_reducible refine ah ?_)))
     (have ct := dc c.ab (by omega) (by omega); (first | refine ak.at ct ⟨leA, trivial⟩ ?_ | refine aj.at ct ⟨leA, trivial⟩ ?_); clear ct)
     (repeat ((repeat1' (first | simp -implicitDefEqProofs -dsimp only [go_sem, ab.o] | simp -dsimp (disch := omega) only [wrap_i64])); repeat (with_reducible refine ah ?_)))
     (have ct := e7 c hc; (first | refine ak.at ct ⟨leA, trivial⟩ ?_ | refine aj.at ct ⟨leA, trivial⟩ ?_); clear ct)
     rw [hb]
     (repeat ((repeat1' (first | simp -implicitDefEqProofs -dsimp only [go_sem] | simp -dsimp (disch := omega) only [wrap_i64])); repeat (with_reducible refine ah ?_)))
     (first | refine ak.at (hV) ⟨leA, trivial⟩ ?_ | refine aj.at (hV) ⟨leA, trivial⟩ ?_)
     (repeat ((repeat1' (first | simp -implicitDefEqProofs -dsimp only [go_sem, aw.v] | simp -dsimp (disch := omega) only [wrap_i64])); repeat (with_reducible refine ah ?_)))
     refine al.pick [2, 3] (by decide) (fun j hj => by omega) (.inl ?_) ?_
     · first | rfl | (simp [ren, bg, posOf, ai.o]; done)
     · simp only [bc, List.map_cons, List.map_nil, bh, List.getElem?_cons_zero, List.getElem?_cons_succ, ae]
   | true =>
     have hl2 := aac hr
     obtain ⟨hw, hlg⟩ := r8 hb
     rw [hr] at hV
     by_cases hf : c.Log.Count = 60
     · have hf' : (c.Log.Count == 60) = true := by simpa using hf
       rw [show dj c line = (c, al8) by rw [dj, if_neg (by simp [hb]), if_neg (by simp [hr]), if_pos hf]]
       refine Ctr.intro Tryz.mixed Tryz.func33 rfl Tryz.aj6 ?_
       simp -implicitDefEqProofs -dsimp only [go_sem, Tryz.ntmps33, Tryz.results33]
       (repeat ((repeat1' (first | simp -implicitDefEqProofs -dsimp only [go_sem, ai.v] | simp -dsimp (disch := omega) only [wrap_i64])); repeat (with_reducible refine ah ?_)))
       (have ct := dc c.ab (by omega) (by omega); (first | refine ak.at ct ⟨leA, trivial⟩ ?_ | refine aj.at ct ⟨leA, trivial⟩ ?_); clear ct)
       (repeat ((repeat1' (first | simp -implicitDefEqProofs -dsimp only [go_sem, ab.o] | simp -dsimp (disch := omega) only [wrap_i64])); repeat (with_reducible refine ah ?_)))
       (have ct := e7 c hc; (first | refine ak.at ct ⟨leA, trivial⟩ ?_ | refine aj.at ct ⟨leA, trivial⟩ ?_); clear ct)
       rw [hb]
       (repeat ((repeat1' (first | simp -implicitDefEqProofs -dsimp only [go_sem] | simp -dsimp (disch := omega) only [wrap_i64])); repeat (with_reducible refine ah ?_)))
       (first | refine ak.at (hV) ⟨leA, trivial⟩ ?_ | refine aj.at (hV) ⟨leA, trivial⟩ ?_)
       (repeat ((repeat1' (first | simp -implicitDefEqProofs -dsimp only [go_sem, aw.v, hf'] | simp -dsimp (disch := omega) only [wrap_i64])); repeat (with_reducible refine ah ?_)))
       refine al.pick [2, 3] (by decide) (fun j hj => by omega) (.inl ?_) ?_
       · first | rfl | (simp [ren, bg, posOf, ai.o]; done)
       · simp only [bc, List.map_cons, List.map_nil, bh, List.getElem?_cons_zero, List.getElem?_cons_succ, ae]
     · have hf' : (c.Log.Count == 60) = false := by simpa using hf
       rw [show dj c line = (⟨(dm c.ab line).1, ago c.Log ⟨line, l6 (dm c.ab line).2⟩⟩, l6 (dm c.ab line).2) by rw [dj, if_neg (by simp [hb]), if_neg (by simp [hr]), if_neg hf]]
       rw [aip]
       have hcap : l6 (dm c.ab line).2 = if 200 < ((dm c.ab line).2.size : Int) then aaz else (dm c.ab line).2 := rfl
       have hcs : (l6 (dm c.ab line).2).size ≤ 200 := by
         rw [hcap]; split
         · decide
         · omega
       obtain ⟨z, hz⟩ := ah7 c.Log ⟨line, l6 (dm c.ab line).2⟩
       have iA := aau c.Log ⟨line, l6 (dm c.ab line).2⟩ f2 f3 (by dsimp only; omega) (by dsimp only; omega)
       rw [hz] at iA
       cases hs : yj c.ab line with
       | none =>
         have hP := alm c line (by omega) hw hs
         rw [Option.getD_none]
         refine Ctr.intro Tryz.mixed Tryz.func33 rfl Tryz.aj6 ?_
         simp -implicitDefEqProofs -dsimp only [go_sem, Tryz.ntmps33, Tryz.results33]
         (repeat ((repeat1' (first | simp -implicitDefEqProofs -dsimp only [go_sem, ai.v] | simp -dsimp (disch := omega) only [wrap_i64])); repeat (with_reducible refine ah ?_)))
         (have ct := dc c.ab (by omega) (by omega); (first | refine ak.at ct ⟨leA, trivial⟩ ?_ | refine aj.at ct ⟨leA, trivial⟩ ?_); clear ct)
         (repeat ((repeat1' (first | simp -implicitDefEqProofs -dsimp only [go_sem, ab.o] | simp -dsimp (disch := omega) only [wrap_i64])); repeat (with_reducible refine ah ?_)))
         (have ct := e7 c hc; (first | refine ak.at ct ⟨leA, trivial⟩ ?_ | refine aj.at ct ⟨leA, trivial⟩ ?_); clear ct)
         rw [hb]
         (repeat ((repeat1' (first | simp -implicitDefEqProofs -dsimp only [go_sem] | simp -dsimp (disch := omega) only [wrap_i64])); repeat (with_reducible refine ah ?_)))
         (first | refine ak.at (hV) ⟨leA, trivial⟩ ?_ | refine aj.at (hV) ⟨leA, trivial⟩ ?_)
         (repeat ((repeat1' (first | simp -implicitDefEqProofs -dsimp only [go_sem, aw.v, hf'] | simp -dsimp (disch := omega) only [wrap_i64])); repeat (with_reducible refine ah ?_)))
         refine aj.qb [4, 2, 3] false hP (by decide) ⟨leO, leO, trivial⟩ (by simp [bc, bh, ren, bg, posOf, ae, ai.oc]) ⟨⟨rfl, rfl⟩, ⟨rfl, rfl⟩, ⟨rfl, rfl⟩, trivial⟩ (.inl rfl) ?_
         (repeat ((repeat1' (first | simp -implicitDefEqProofs -dsimp only [go_sem, ai.oc] | simp -dsimp (disch := omega) only [wrap_i64])); repeat (with_reducible refine ah ?_)))
         refine bd.split (fun hg => ?_) (fun hg => ?_)
         · have e : l6 (dm c.ab line).2 = aaz := by rw [hcap, if_pos (of_decide_eq_true hg)]
           rw [e] at iA hz ⊢
           (repeat ((repeat1' (first | simp -implicitDefEqProofs -dsimp only [go_sem, hg] | simp -dsimp (disch := omega) only [wrap_i64])); repeat (with_reducible refine ah ?_)))
           (first | refine ak.at (iA) ⟨leA, leA, trivial⟩ ?_ | refine aj.at (iA) ⟨leA, leA, trivial⟩ ?_)
           (repeat ((repeat1' (first | simp -implicitDefEqProofs -dsimp only [go_sem, Log.v] | simp -dsimp (disch := omega) only [wrap_i64])); repeat (with_reducible refine ah ?_)))
           refine al.pick [2, 3] (by decide) (fun j hj => by omega) (.inl ?_) ?_
           · first | rfl | (simp [ren, bg, posOf, ai.o]; done)
           · simp only [bc, List.map_cons, List.map_nil, bh, List.getElem?_cons_zero, List.getElem?_cons_succ, ae]
         · have e : l6 (dm c.ab line).2 = (dm c.ab line).2 := by rw [hcap, if_neg (of_decide_eq_false hg)]
           rw [e] at iA hz ⊢
           (repeat ((repeat1' (first | simp -implicitDefEqProofs -dsimp only [go_sem, hg] | simp -dsimp (disch := omega) only [wrap_i64])); repeat (with_reducible refine ah ?_)))
           (first | refine ak.at (iA) ⟨leA, leA, trivial⟩ ?_ | refine aj.at (iA) ⟨leA, leA, trivial⟩ ?_)
           (repeat ((repeat1' (first | simp -implicitDefEqProofs -dsimp only [go_sem, Log.v] | simp -dsimp (disch := omega) only [wrap_i64])); repeat (with_reducible refine ah ?_)))
           refine al.pick [2, 3] (by decide) (fun j hj => by omega) (.inl ?_) ?_
           · first | rfl | (simp [ren, bg, posOf, ai.o]; done)
           · simp only [bc, List.map_cons, List.map_nil, bh, List.getElem?_cons_zero, List.getElem?_cons_succ, ae]
       | some b =>
         have hP := aib c b line (by omega) hw hs
         rw [Option.getD_some]
         refine Ctr.intro Tryz.mixed Tryz.func33 rfl Tryz.aj6 ?_
         simp -implicitDefEqProofs -dsimp only [go_sem, Tryz.ntmps33, Tryz.results33]
         (repeat ((repeat1' (first | simp -implicitDefEqProofs -dsimp only [go_sem, ai.v] | simp -dsimp (disch := omega) only [wrap_i64])); repeat (with_reducible refine ah ?_)))
         (have ct := dc c.ab (by omega) (by omega); (first | refine ak.at ct ⟨leA, trivial⟩ ?_ | refine aj.at ct ⟨leA, trivial⟩ ?_); clear ct)
         (repeat ((repeat1' (first | simp -implicitDefEqProofs -dsimp only [go_sem, ab.o] | simp -dsimp (disch := omega) only [wrap_i64])); repeat (with_reducible refine ah ?_)))
         (have ct := e7 c hc; (first | refine ak.at ct ⟨leA, trivial⟩ ?_ | refine aj.at ct ⟨leA, trivial⟩ ?_); clear ct)
         rw [hb]
         (repeat ((repeat1' (first | simp -implicitDefEqProofs -dsimp only [go_sem] | simp -dsimp (disch := omega) only [wrap_i64])); repeat (with_reducible refine ah ?_)))
         (first | refine ak.at (hV) ⟨leA, trivial⟩ ?_ | refine aj.at (hV) ⟨leA, trivial⟩ ?_)
         (repeat ((repeat1' (first | simp -implicitDefEqProofs -dsimp only [go_sem, aw.v, hf'] | simp -dsimp (disch := omega) only [wrap_i64])); repeat (with_reducible refine ah ?_)))
         refine aj.qb [4, 2, 3] false hP (by decide) ⟨leO, leO, trivial⟩ (by simp [bc, bh, ren, bg, posOf, ae, ai.oc]) ⟨⟨rfl, rfl⟩, ⟨rfl, rfl⟩, ⟨rfl, rfl⟩, trivial⟩ (.inl rfl) ?_
         (repeat ((repeat1' (first | simp -implicitDefEqProofs -dsimp only [go_sem, ai.oc, cW, List.getElem?_nil] | simp -dsimp (disch := omega) only [wrap_i64])); repeat (with_reducible refine ah ?_)))
         refine bd.split (fun hg => ?_) (fun hg => ?_)
         · have e : l6 (dm c.ab line).2 = aaz := by rw [hcap, if_pos (of_decide_eq_true hg)]
           rw [e] at iA hz ⊢
           (repeat ((repeat1' (first | simp -implicitDefEqProofs -dsimp only [go_sem, hg, List.getElem?_nil] | simp -dsimp (disch := omega) only [wrap_i64])); repeat (with_reducible refine ah ?_)))
           (first | refine ak.at (iA) ⟨leA, leA, trivial⟩ ?_ | refine aj.at (iA) ⟨leA, leA, trivial⟩ ?_)
           (repeat ((repeat1' (first | simp -implicitDefEqProofs -dsimp only [go_sem, Log.v, List.getElem?_nil] | simp -dsimp (disch := omega) only [wrap_i64])); repeat (with_reducible refine ah ?_)))
           refine al.pick [5, 6] (by decide) (fun j hj => by omega) (.inl ?_) ?_
           · first | rfl | (simp [ren, bg, posOf, ai.o]; done)
           · simp only [bc, List.map_cons, List.map_nil, bh, List.getElem?_cons_zero, List.getElem?_cons_succ, ae]
         · have e : l6 (dm c.ab line).2 = (dm c.ab line).2 := by rw [hcap, if_neg (of_decide_eq_false hg)]
           rw [e] at iA hz ⊢
           (repeat ((repeat1' (first | simp -implicitDefEqProofs -dsimp only [go_sem, hg, List.getElem?_nil] | simp -dsimp (disch := omega) only [wrap_i64])); repeat (with_reducible refine ah ?_)))
           (first | refine ak.at (iA) ⟨leA, leA, trivial⟩ ?_ | refine aj.at (iA) ⟨leA, leA, trivial⟩ ?_)
           (repeat ((repeat1' (first | simp -implicitDefEqProofs -dsimp only [go_sem, Log.v, List.getElem?_nil] | simp -dsimp (disch := omega) only [wrap_i64])); repeat (with_reducible refine ah ?_)))
           refine al.pick [5, 6] (by decide) (fun j hj => by omega) (.inl ?_) ?_
           · first | rfl | (simp [ren, bg, posOf, ai.o]; done)
           · simp only [bc, List.map_cons, List.map_nil, bh, List.getElem?_cons_zero, List.getElem?_cons_succ, ae]
end Go.Proofs
end
section
set_option maxRecDepth 100000
set_option maxHeartbeats 4000000
namespace Go.Proofs
open Go.Lv
def W00 : ab := ⟨0, [], [], 0, 0⟩
theorem frzW (o : Option ab) : al 0 (aeq o) (ae2 o) (.tup [(o.getD W00).v, .bool o.isSome]) [] := by
 cases o with
 | none =>
   intro w0 m0 h0 av0 W m val e1 e2 hlt hle H hx hi
   refine ⟨m, H, ?_, hi⟩
   change RV W m [] _ true val (.tup [.agg [.int .i64 0, .nilsl, .nilsl, .int .i64 0, .int .i64 0], .bool false]) at hx
   cases hx with
   | tup a vs ha hra =>
     refine .tup _ _ ha (fun i hi => ?_)
     match i, hi with
     | 0, _ => exact (hra 0 (by simp)).le (LeV.agg ⟨LeE.refl _, LeE.nil, LeE.nil, LeE.refl _, LeE.refl _, trivial⟩)
     | 1, _ => exact hra 1 (by simp)
 | some b =>
   refine al.pick [] (by decide) (fun j hj => by omega) (.inl ?_) rfl
   have e1 := e9 (cs := az.cs) b.Posts
   have e2 := e9 (cs := an.cs) b.Shocks
   simp [aeq, ae2, ab.o, ab.v, ren, bg, posOf, sx, ae] at e1 e2 ⊢
   exact ⟨e1.symm, e2.symm⟩
theorem ano (w : ab) (k n v : Int) (hp : w.Posts.length ≤ 16777216) (hs : w.Shocks.length ≤ 16777216) (hv : v ≤ 9223372036854775807) : Ctr Tryz.prog 195 [w.v, .agg [.int .i64 k, .int .i64 n, .int .i64 v]] [] (.tup [((fa w k n v).getD W00).v, .bool (fa w k n v).isSome]) [] :=
 (ael w k n v hp hs hv).rn (frzW _)
theorem agr (s : ByteArray) (hs : s.size ≤ 281474976710656) : Ctr Tryz.prog 156 [.str s] [] (jj s) [] := by
 have h := aoc s hs
 rw [jj] at h ⊢
 refine Ctr.intro Tryz.mixed Tryz.func156 rfl Tryz.azt ?_
 simp -implicitDefEqProofs -dsimp only [go_sem, Tryz.ntmps156, Tryz.results156]
 (first | refine ak.at (h) ⟨leA, trivial⟩ ?_ | refine aj.at (h) ⟨leA, trivial⟩ ?_)
 (repeat ((repeat1' (first | simp -implicitDefEqProofs -dsimp only [go_sem] | simp -dsimp (disch := omega) only [wrap_i64])); repeat (with_reducible refine ah ?_)))
 exact al.ax rfl (by rfl)
theorem pq (L : List Int) (b : Bool) (hL : ∀ n ∈ L, iq n ∧ -9223372036854775807 ≤ n) (hl : L.length ≤ 100000) : Ctr Tryz.prog 215 [IntS.sl L, .bool b] [] (.str (if b then l7 L else wQ)) [] := by
 cases b with
 | false =>
   refine Ctr.intro Tryz.mixed Tryz.func215 rfl Tryz.akd ?_
   simp -implicitDefEqProofs -dsimp only [go_sem, Tryz.ntmps215, Tryz.results215]
   (repeat ((repeat1' (first | simp -implicitDefEqProofs -dsimp only [go_sem] | simp -dsimp (disch := omega) only [wrap_i64])); repeat (with_reducible refine ah ?_)))
   exact al.ax rfl (by rfl)
 | true =>
   by_cases he : L = []
   · have c0 : ((L.length : Int) == 0) = true := by rw [he]; rfl
     refine Ctr.intro Tryz.mixed Tryz.func215 rfl Tryz.akd ?_
     simp -implicitDefEqProofs -dsimp only [go_sem, Tryz.ntmps215, Tryz.results215]
     (repeat ((repeat1' (first | simp -implicitDefEqProofs -dsimp only [go_sem, c0] | simp -dsimp (disch := omega) only [wrap_i64])); repeat (with_reducible refine ah ?_)))
     exact al.ax (by rw [l7, if_pos he]; rfl) (by rfl)
   have hpos : 0 < L.length := List.length_pos_iff.2 he
   have c0 : ((L.length : Int) == 0) = false := by simp; omega
   have hr0 : (rows IntS.cs L).take 1 = [.int .i64 L[0]] := by
     have := bt IntS.csl hpos
     rw [Nat.zero_mul, List.drop_zero] at this
     exact this
   have hsz := fun i => xw (L.take i) (fun n hn => (hL n (List.mem_of_mem_take hn)).1)
   refine Ctr.intro Tryz.mixed Tryz.func215 rfl Tryz.akd ?_
   simp -implicitDefEqProofs -dsimp only [go_sem, Tryz.ntmps215, Tryz.results215]
   (repeat ((repeat1' (first | simp -implicitDefEqProofs -dsimp only [go_sem, c0, hr0] | simp -dsimp (disch := omega) only [wrap_i64])); repeat (with_reducible refine ah ?_)))
   (first | refine ak.at (fi L[0] (hL _ (List.getElem_mem hpos)).2 (hL _ (List.getElem_mem hpos)).1.2) ⟨leA, trivial⟩ ?_ | refine aj.at (fi L[0] (hL _ (List.getElem_mem hpos)).2 (hL _ (List.getElem_mem hpos)).1.2) ⟨leA, trivial⟩ ?_)
   (repeat ((repeat1' (first | simp -implicitDefEqProofs -dsimp only [go_sem] | simp -dsimp (disch := omega) only [wrap_i64])); repeat (with_reducible refine ah ?_)))
   refine cw.intro (fun i : Nat => 1 ≤ i ∧ i ≤ L.length) (fun i => ⟨[IntS.sl L, .undef, .undef, .undef, .undef, .str (n5 (L.take i)), .int .i64 i, .undef, .undef, .undef, .undef, .undef, .undef, .undef, .undef, .undef, .undef, .undef, .undef, .undef, .undef, .undef, .undef, .undef, .undef, .undef, .undef, .undef, .undef, .undef, .undef], [], 0⟩) (fun i => L.length - i) 1 ⟨Nat.le_refl _, hpos⟩ ?_ (fun i hi => ?_)
   · refine br.cut (0) (by simp) (by simp) ?_ ?_
     · have e1 : n5 (L.take 1) = num L[0] := by rw [List.take_succ_eq_append_getElem hpos]; rfl
       rw [e1]
       simp [LeC, LeV, ren, bm]
     · rfl
   simp -implicitDefEqProofs -dsimp only [go_sem]
   refine bd.split (fun h1 => ?_) (fun h1 => ?_)
   · have hi' : i < L.length := by have := of_decide_eq_true h1; omega
     have hr := bt IntS.csl hi'
     have hs1 := hsz i
     rw [List.length_take] at hs1
     have hst : n5 (L.take (i + 1)) = n5 (L.take i) ++ ⟨#[32]⟩ ++ num L[i] := by
       rw [List.take_succ_eq_append_getElem hi']
       exact aei _ _ (fun e => by have := congrArg List.length e; rw [List.length_take, List.length_nil] at this; omega)
     have hnz := yl (hL _ (List.getElem_mem hi')).1
     (repeat ((repeat1' (first | simp -implicitDefEqProofs -dsimp only [go_sem, h1, hr, IntS.cs] | simp -dsimp (disch := omega) only [wrap_i64])); repeat (with_reducible refine ah ?_)))
     have hz32 : (#[32] : Array UInt8).size = 1 := rfl
     refine ⟨by omega, ⟨by omega, by omega⟩, ?_⟩
     (first | refine ak.at (fi L[i] (hL _ (List.getElem_mem hi')).2 (hL _ (List.getElem_mem hi')).1.2) ⟨leA, trivial⟩ ?_ | refine aj.at (fi L[i] (hL _ (List.getElem_mem hi')).2 (hL _ (List.getElem_mem hi')).1.2) ⟨leA, trivial⟩ ?_)
     (repeat ((repeat1' (first | simp -implicitDefEqProofs -dsimp only [go_sem, ByteArray.size_append, bo] | simp -dsimp (disch := omega) only [wrap_i64])); repeat (with_reducible refine ah ?_)))
     refine ⟨i + 1, ⟨by omega, hi'⟩, ?_, by omega⟩
     refine br.cut (0) (by simp) (by simp) ?_ ?_
     · rw [hst]
       simp [LeC, LeV, ren, bm]
     · rfl
   · have hi' : i = L.length := by have := of_decide_eq_false h1; omega
     subst hi'
     (repeat ((repeat1' (first | simp -implicitDefEqProofs -dsimp only [go_sem, h1, List.take_length] | simp -dsimp (disch := omega) only [wrap_i64])); repeat (with_reducible refine ah ?_)))
     exact al.ax (by rw [l7, if_neg he]) (by rfl)
theorem aa4 (w : ab) (n : Int) (hw : wB w = true) : Ctr Tryz.prog 213 [w.v, .int .i64 n] [] (.str ((abq w n).getD wQ)) [] := by
 have W := dt hw
 have pl := W.plen
 have sl := W.slen
 have hT := aep w n (by omega) (by omega)
 rw [aap hw] at hT
 refine Ctr.intro Tryz.mixed Tryz.func213 rfl Tryz.aw5 ?_
 simp -implicitDefEqProofs -dsimp only [go_sem, Tryz.ntmps213, Tryz.results213]
 (repeat ((repeat1' (first | simp -implicitDefEqProofs -dsimp only [go_sem, ab.v] | simp -dsimp (disch := omega) only [wrap_i64])); repeat (with_reducible refine ah ?_)))
 (first | refine ak.at (hT) ⟨leA, leA, trivial⟩ ?_ | refine aj.at (hT) ⟨leA, leA, trivial⟩ ?_)
 (repeat ((repeat1' (first | simp -implicitDefEqProofs -dsimp only [go_sem] | simp -dsimp (disch := omega) only [wrap_i64])); repeat (with_reducible refine ah ?_)))
 cases hA : abq w n with
 | none =>
   (repeat ((repeat1' (first | simp -implicitDefEqProofs -dsimp only [go_sem] | simp -dsimp (disch := omega) only [wrap_i64])); repeat (with_reducible refine ah ?_)))
   exact al.ax rfl (by rfl)
 | some y =>
   (repeat ((repeat1' (first | simp -implicitDefEqProofs -dsimp only [go_sem] | simp -dsimp (disch := omega) only [wrap_i64])); repeat (with_reducible refine ah ?_)))
   exact al.ax rfl (by rfl)
theorem ail (w : ab) (hw : wB w = true) : Ctr Tryz.prog 212 [w.v] [] (.str (l7 (ups w))) [] := by
 have W := dt hw
 have pl := W.plen
 have sl := W.slen
 have hU := ajs w (by omega) (by omega)
 rw [aop hw] at hU
 simp only [tn, lz] at hU
 have u := auh hw
 have hL := pq (ups w) true (fun n hn => ⟨(u.1 n hn).1, by have := (u.1 n hn).2; omega⟩) (by omega)
 refine Ctr.intro Tryz.mixed Tryz.func212 rfl Tryz.azm ?_
 simp -implicitDefEqProofs -dsimp only [go_sem, Tryz.ntmps212, Tryz.results212]
 (repeat ((repeat1' (first | simp -implicitDefEqProofs -dsimp only [go_sem, ab.v] | simp -dsimp (disch := omega) only [wrap_i64])); repeat (with_reducible refine ah ?_)))
 (first | refine ak.at (hU) ⟨leA, trivial⟩ ?_ | refine aj.at (hU) ⟨leA, trivial⟩ ?_)
 (repeat ((repeat1' (first | simp -implicitDefEqProofs -dsimp only [go_sem] | simp -dsimp (disch := omega) only [wrap_i64])); repeat (with_reducible refine ah ?_)))
 (first | refine ak.at (hL) ⟨leA, leA, trivial⟩ ?_ | refine aj.at (hL) ⟨leA, leA, trivial⟩ ?_)
 (repeat ((repeat1' (first | simp -implicitDefEqProofs -dsimp only [go_sem] | simp -dsimp (disch := omega) only [wrap_i64])); repeat (with_reducible refine ah ?_)))
 exact al.ax rfl (by rfl)
theorem aky {w : ab} {k n v : Int} (h : fa w k n v = none) : lb w k n v = (w, wQ) := by rw [lb, h]
theorem akh {w b : ab} {k n v : Int} (h : fa w k n v = some b) : lb w k n v = (b, (ke b k n).getD wQ) := by rw [lb, h]
theorem jm (c : ai) (k n v : Int) (hw : wB c.ab = true) (hv : v ≤ 999999) : Ctr Tryz.prog 157 [c.v, .agg [.int .i64 k, .int .i64 n, .int .i64 v]] [] (.tup [(cW c (lb c.ab k n v).1).v, .str (lb c.ab k n v).2]) [] := by
 have W := dt hw
 have pl := W.plen
 have sl := W.slen
 have hS := ano c.ab k n v (by omega) (by omega) (by omega)
 cases hs : fa c.ab k n v with
 | none =>
   rw [hs, Option.getD_none] at hS
   rw [aky hs]
   refine Ctr.intro Tryz.mixed Tryz.func157 rfl Tryz.tv ?_
   simp -implicitDefEqProofs -dsimp only [go_sem, Tryz.ntmps157, Tryz.results157]
   (repeat ((repeat1' (first | simp -implicitDefEqProofs -dsimp only [go_sem, ai.v, ai.cs] | simp -dsimp (disch := omega) only [wrap_i64])); repeat (with_reducible refine ah ?_)))
   (first | refine ak.at (hS) ⟨leA, leA, trivial⟩ ?_ | refine aj.at (hS) ⟨leA, leA, trivial⟩ ?_)
   (repeat ((repeat1' (first | simp -implicitDefEqProofs -dsimp only [go_sem, ab.v] | simp -dsimp (disch := omega) only [wrap_i64])); repeat (with_reducible refine ah ?_)))
   exact al.ax rfl (by rfl)
 | some b =>
   rw [hs, Option.getD_some] at hS
   rw [akh hs]
   obtain ⟨_, hst, _, _, hb⟩ := xz hs
   have B := dt hb
   have bl := B.plen
   have bs := B.slen
   have bn := B.now
   have bx := B.next
   have ba := B.arch
   have hU := ail b hb
   rcases oi hst with ⟨rfl, h1⟩ | hk | rfl | rfl | ⟨hk, h1⟩
   · have e : ke b 1 n = some (num b.Now) := rfl
     rw [e]
     refine Ctr.intro Tryz.mixed Tryz.func157 rfl Tryz.tv ?_
     simp -implicitDefEqProofs -dsimp only [go_sem, Tryz.ntmps157, Tryz.results157]
     (repeat ((repeat1' (first | simp -implicitDefEqProofs -dsimp only [go_sem, ai.v, ai.cs] | simp -dsimp (disch := omega) only [wrap_i64])); repeat (with_reducible refine ah ?_)))
     (first | refine ak.at (hS) ⟨leA, leA, trivial⟩ ?_ | refine aj.at (hS) ⟨leA, leA, trivial⟩ ?_)
     (repeat ((repeat1' (first | simp -implicitDefEqProofs -dsimp only [go_sem, ab.v] | simp -dsimp (disch := omega) only [wrap_i64])); repeat (with_reducible refine ah ?_)))
     (have ct := fi b.Now (by omega) (by omega); (first | refine ak.at ct ⟨leA, trivial⟩ ?_ | refine aj.at ct ⟨leA, trivial⟩ ?_); clear ct)
     (repeat ((repeat1' (first | simp -implicitDefEqProofs -dsimp only [go_sem] | simp -dsimp (disch := omega) only [wrap_i64])); repeat (with_reducible refine ah ?_)))
     exact al.ax rfl (by rfl)
   · have e : ke b k n = some (l7 (ups b)) := by rcases hk with rfl | rfl <;> rfl
     rw [e]
     rcases hk with rfl | rfl
     · skip
       refine Ctr.intro Tryz.mixed Tryz.func157 rfl Tryz.tv ?_
       simp -implicitDefEqProofs -dsimp only [go_sem, Tryz.ntmps157, Tryz.results157]
       (repeat ((repeat1' (first | simp -implicitDefEqProofs -dsimp only [go_sem, ai.v, ai.cs] | simp -dsimp (disch := omega) only [wrap_i64])); repeat (with_reducible refine ah ?_)))
       (first | refine ak.at (hS) ⟨leA, leA, trivial⟩ ?_ | refine aj.at (hS) ⟨leA, leA, trivial⟩ ?_)
       (repeat ((repeat1' (first | simp -implicitDefEqProofs -dsimp only [go_sem, ab.v] | simp -dsimp (disch := omega) only [wrap_i64])); repeat (with_reducible refine ah ?_)))
       (first | refine ak.at (hU) ⟨leA, trivial⟩ ?_ | refine aj.at (hU) ⟨leA, trivial⟩ ?_)
       (repeat ((repeat1' (first | simp -implicitDefEqProofs -dsimp only [go_sem] | simp -dsimp (disch := omega) only [wrap_i64])); repeat (with_reducible refine ah ?_)))
       exact al.ax rfl (by rfl)
     · skip
       refine Ctr.intro Tryz.mixed Tryz.func157 rfl Tryz.tv ?_
       simp -implicitDefEqProofs -dsimp only [go_sem, Tryz.ntmps157, Tryz.results157]
       (repeat ((repeat1' (first | simp -implicitDefEqProofs -dsimp only [go_sem, ai.v, ai.cs] | simp -dsimp (disch := omega) only [wrap_i64])); repeat (with_reducible refine ah ?_)))
       (first | refine ak.at (hS) ⟨leA, leA, trivial⟩ ?_ | refine aj.at (hS) ⟨leA, leA, trivial⟩ ?_)
       (repeat ((repeat1' (first | simp -implicitDefEqProofs -dsimp only [go_sem, ab.v] | simp -dsimp (disch := omega) only [wrap_i64])); repeat (with_reducible refine ah ?_)))
       (first | refine ak.at (hU) ⟨leA, trivial⟩ ?_ | refine aj.at (hU) ⟨leA, trivial⟩ ?_)
       (repeat ((repeat1' (first | simp -implicitDefEqProofs -dsimp only [go_sem] | simp -dsimp (disch := omega) only [wrap_i64])); repeat (with_reducible refine ah ?_)))
       exact al.ax rfl (by rfl)
   · have e : ke b 4 n = some (num (b.Next - 1)) := rfl
     rw [e]
     refine Ctr.intro Tryz.mixed Tryz.func157 rfl Tryz.tv ?_
     simp -implicitDefEqProofs -dsimp only [go_sem, Tryz.ntmps157, Tryz.results157]
     (repeat ((repeat1' (first | simp -implicitDefEqProofs -dsimp only [go_sem, ai.v, ai.cs] | simp -dsimp (disch := omega) only [wrap_i64])); repeat (with_reducible refine ah ?_)))
     (first | refine ak.at (hS) ⟨leA, leA, trivial⟩ ?_ | refine aj.at (hS) ⟨leA, leA, trivial⟩ ?_)
     (repeat ((repeat1' (first | simp -implicitDefEqProofs -dsimp only [go_sem, ab.v] | simp -dsimp (disch := omega) only [wrap_i64])); repeat (with_reducible refine ah ?_)))
     (have ct := fi (b.Next - 1) (by omega) (by omega); (first | refine ak.at ct ⟨leA, trivial⟩ ?_ | refine aj.at ct ⟨leA, trivial⟩ ?_); clear ct)
     (repeat ((repeat1' (first | simp -implicitDefEqProofs -dsimp only [go_sem] | simp -dsimp (disch := omega) only [wrap_i64])); repeat (with_reducible refine ah ?_)))
     exact al.ax rfl (by rfl)
   · have e : ke b 8 n = some (num b.Archived) := rfl
     rw [e]
     refine Ctr.intro Tryz.mixed Tryz.func157 rfl Tryz.tv ?_
     simp -implicitDefEqProofs -dsimp only [go_sem, Tryz.ntmps157, Tryz.results157]
     (repeat ((repeat1' (first | simp -implicitDefEqProofs -dsimp only [go_sem, ai.v, ai.cs] | simp -dsimp (disch := omega) only [wrap_i64])); repeat (with_reducible refine ah ?_)))
     (first | refine ak.at (hS) ⟨leA, leA, trivial⟩ ?_ | refine aj.at (hS) ⟨leA, leA, trivial⟩ ?_)
     (repeat ((repeat1' (first | simp -implicitDefEqProofs -dsimp only [go_sem, ab.v] | simp -dsimp (disch := omega) only [wrap_i64])); repeat (with_reducible refine ah ?_)))
     (have ct := fi b.Archived (by omega) (by omega); (first | refine ak.at ct ⟨leA, trivial⟩ ?_ | refine aj.at ct ⟨leA, trivial⟩ ?_); clear ct)
     (repeat ((repeat1' (first | simp -implicitDefEqProofs -dsimp only [go_sem] | simp -dsimp (disch := omega) only [wrap_i64])); repeat (with_reducible refine ah ?_)))
     exact al.ax rfl (by rfl)
   · have hT := aa4 b n hb
     have e : ke b k n = abq b n := by rcases hk with rfl | rfl | rfl <;> rfl
     rw [e]
     rcases hk with rfl | rfl | rfl
     · skip
       refine Ctr.intro Tryz.mixed Tryz.func157 rfl Tryz.tv ?_
       simp -implicitDefEqProofs -dsimp only [go_sem, Tryz.ntmps157, Tryz.results157]
       (repeat ((repeat1' (first | simp -implicitDefEqProofs -dsimp only [go_sem, ai.v, ai.cs] | simp -dsimp (disch := omega) only [wrap_i64])); repeat (with_reducible refine ah ?_)))
       (first | refine ak.at (hS) ⟨leA, leA, trivial⟩ ?_ | refine aj.at (hS) ⟨leA, leA, trivial⟩ ?_)
       (repeat ((repeat1' (first | simp -implicitDefEqProofs -dsimp only [go_sem, ab.v] | simp -dsimp (disch := omega) only [wrap_i64])); repeat (with_reducible refine ah ?_)))
       (first | refine ak.at (hT) ⟨leA, leA, trivial⟩ ?_ | refine aj.at (hT) ⟨leA, leA, trivial⟩ ?_)
       (repeat ((repeat1' (first | simp -implicitDefEqProofs -dsimp only [go_sem] | simp -dsimp (disch := omega) only [wrap_i64])); repeat (with_reducible refine ah ?_)))
       exact al.ax rfl (by rfl)
     · skip
       refine Ctr.intro Tryz.mixed Tryz.func157 rfl Tryz.tv ?_
       simp -implicitDefEqProofs -dsimp only [go_sem, Tryz.ntmps157, Tryz.results157]
       (repeat ((repeat1' (first | simp -implicitDefEqProofs -dsimp only [go_sem, ai.v, ai.cs] | simp -dsimp (disch := omega) only [wrap_i64])); repeat (with_reducible refine ah ?_)))
       (first | refine ak.at (hS) ⟨leA, leA, trivial⟩ ?_ | refine aj.at (hS) ⟨leA, leA, trivial⟩ ?_)
       (repeat ((repeat1' (first | simp -implicitDefEqProofs -dsimp only [go_sem, ab.v] | simp -dsimp (disch := omega) only [wrap_i64])); repeat (with_reducible refine ah ?_)))
       (first | refine ak.at (hT) ⟨leA, leA, trivial⟩ ?_ | refine aj.at (hT) ⟨leA, leA, trivial⟩ ?_)
       (repeat ((repeat1' (first | simp -implicitDefEqProofs -dsimp only [go_sem] | simp -dsimp (disch := omega) only [wrap_i64])); repeat (with_reducible refine ah ?_)))
       exact al.ax rfl (by rfl)
     · skip
       refine Ctr.intro Tryz.mixed Tryz.func157 rfl Tryz.tv ?_
       simp -implicitDefEqProofs -dsimp only [go_sem, Tryz.ntmps157, Tryz.results157]
       (repeat ((repeat1' (first | simp -implicitDefEqProofs -dsimp only [go_sem, ai.v, ai.cs] | simp -dsimp (disch := omega) only [wrap_i64])); repeat (with_reducible refine ah ?_)))
       (first | refine ak.at (hS) ⟨leA, leA, trivial⟩ ?_ | refine aj.at (hS) ⟨leA, leA, trivial⟩ ?_)
       (repeat ((repeat1' (first | simp -implicitDefEqProofs -dsimp only [go_sem, ab.v] | simp -dsimp (disch := omega) only [wrap_i64])); repeat (with_reducible refine ah ?_)))
       (first | refine ak.at (hT) ⟨leA, leA, trivial⟩ ?_ | refine aj.at (hT) ⟨leA, leA, trivial⟩ ?_)
       (repeat ((repeat1' (first | simp -implicitDefEqProofs -dsimp only [go_sem] | simp -dsimp (disch := omega) only [wrap_i64])); repeat (with_reducible refine ah ?_)))
       exact al.ax rfl (by rfl)
theorem akk (w : ab) (h : ByteArray) (hw : wB w = true) : Ctr Tryz.prog 158 [w.v, .str h] [] (.str ((xd w (kwd h)).getD wQ)) [] := by
 have W := dt hw
 have pl := W.plen
 have sl := W.slen
 have bn := W.now
 have iU := ail w hw
 have iT := ahe w (by omega) (by omega)
 have iS := abv w (by omega) (by omega)
 have iL := abi w (by omega) (by omega)
 rw [adb hw] at iT
 rw [adu hw] at iS
 rw [aj2 hw] at iL
 simp only [tn, lz] at iT iS
 have r := au5 hw
 have s := auu hw
 have l := lg_r hw
 have lT := pq ((ng w).map an.Number) true (fun n hn => ⟨(r.1 n hn).1, by have := (r.1 n hn).2; omega⟩) (by omega)
 have lS := pq (cm w.Shocks) true (fun n hn => ⟨(s.1 n hn).1, by have := (s.1 n hn).2; omega⟩) (by omega)
 have b10 := avk h
 have b11 := avj h
 have b12 := au0 h
 have b13 := ava h
 have b14 := aup h
 generalize kwd h = q at *
 have hq : q = 10 ∨ q = 11 ∨ q = 12 ∨ q = 13 ∨ q = 14 ∨ (q ≠ 10 ∧ q ≠ 11 ∧ q ≠ 12 ∧ q ≠ 13 ∧ q ≠ 14) := by omega
 rcases hq with rfl | rfl | rfl | rfl | rfl | ⟨q1, q2, q3, q4, q5⟩
 · skip
   refine Ctr.intro Tryz.mixed Tryz.func158 rfl Tryz.xb ?_
   simp -implicitDefEqProofs -dsimp only [go_sem, Tryz.ntmps158, Tryz.results158]
   (repeat ((repeat1' (first | simp -implicitDefEqProofs -dsimp only [go_sem, ab.v, b10, b11, b12, b13, b14] | simp -dsimp (disch := omega) only [wrap_i64])); repeat (with_reducible refine ah ?_)))
   (have ct := fi w.Now (by omega) (by omega); (first | refine ak.at ct ⟨leA, trivial⟩ ?_ | refine aj.at ct ⟨leA, trivial⟩ ?_); clear ct)
   (repeat ((repeat1' (first | simp -implicitDefEqProofs -dsimp only [go_sem] | simp -dsimp (disch := omega) only [wrap_i64])); repeat (with_reducible refine ah ?_)))
   exact al.ax rfl (by rfl)
 · skip
   refine Ctr.intro Tryz.mixed Tryz.func158 rfl Tryz.xb ?_
   simp -implicitDefEqProofs -dsimp only [go_sem, Tryz.ntmps158, Tryz.results158]
   (repeat ((repeat1' (first | simp -implicitDefEqProofs -dsimp only [go_sem, ab.v, b10, b11, b12, b13, b14] | simp -dsimp (disch := omega) only [wrap_i64])); repeat (with_reducible refine ah ?_)))
   (first | refine ak.at (iU) ⟨leA, trivial⟩ ?_ | refine aj.at (iU) ⟨leA, trivial⟩ ?_)
   (repeat ((repeat1' (first | simp -implicitDefEqProofs -dsimp only [go_sem] | simp -dsimp (disch := omega) only [wrap_i64])); repeat (with_reducible refine ah ?_)))
   exact al.ax rfl (by rfl)
 · skip
   refine Ctr.intro Tryz.mixed Tryz.func158 rfl Tryz.xb ?_
   simp -implicitDefEqProofs -dsimp only [go_sem, Tryz.ntmps158, Tryz.results158]
   (repeat ((repeat1' (first | simp -implicitDefEqProofs -dsimp only [go_sem, ab.v, b10, b11, b12, b13, b14] | simp -dsimp (disch := omega) only [wrap_i64])); repeat (with_reducible refine ah ?_)))
   (first | refine ak.at (iT) ⟨leA, trivial⟩ ?_ | refine aj.at (iT) ⟨leA, trivial⟩ ?_)
   (repeat ((repeat1' (first | simp -implicitDefEqProofs -dsimp only [go_sem] | simp -dsimp (disch := omega) only [wrap_i64])); repeat (with_reducible refine ah ?_)))
   (first | refine ak.at (lT) ⟨leA, leA, trivial⟩ ?_ | refine aj.at (lT) ⟨leA, leA, trivial⟩ ?_)
   (repeat ((repeat1' (first | simp -implicitDefEqProofs -dsimp only [go_sem] | simp -dsimp (disch := omega) only [wrap_i64])); repeat (with_reducible refine ah ?_)))
   exact al.ax rfl (by rfl)
 · skip
   refine Ctr.intro Tryz.mixed Tryz.func158 rfl Tryz.xb ?_
   simp -implicitDefEqProofs -dsimp only [go_sem, Tryz.ntmps158, Tryz.results158]
   (repeat ((repeat1' (first | simp -implicitDefEqProofs -dsimp only [go_sem, ab.v, b10, b11, b12, b13, b14] | simp -dsimp (disch := omega) only [wrap_i64])); repeat (with_reducible refine ah ?_)))
   (first | refine ak.at (iS) ⟨leA, trivial⟩ ?_ | refine aj.at (iS) ⟨leA, trivial⟩ ?_)
   (repeat ((repeat1' (first | simp -implicitDefEqProofs -dsimp only [go_sem] | simp -dsimp (disch := omega) only [wrap_i64])); repeat (with_reducible refine ah ?_)))
   (first | refine ak.at (lS) ⟨leA, leA, trivial⟩ ?_ | refine aj.at (lS) ⟨leA, leA, trivial⟩ ?_)
   (repeat ((repeat1' (first | simp -implicitDefEqProofs -dsimp only [go_sem] | simp -dsimp (disch := omega) only [wrap_i64])); repeat (with_reducible refine ah ?_)))
   exact al.ax rfl (by rfl)
 · have e : xd w 14 = (lgO w).map fun p => l7 [p.1, p.2] := rfl
   rw [e]
   have hr : ∀ a b : Int, rows IntS.cs [a, b] = [.int .i64 a, .int .i64 b] := fun a b => rfl
   cases hl : lgO w with
   | none =>
     rw [hl] at iL
     simp only [Option.map_none, Option.getD_none, Option.isSome_none] at iL
     have lL := pq [0, 0] false (fun n hn => by simp at hn; subst hn; exact ⟨⟨by decide, by decide⟩, by decide⟩) (by simp)
     refine Ctr.intro Tryz.mixed Tryz.func158 rfl Tryz.xb ?_
     simp -implicitDefEqProofs -dsimp only [go_sem, Tryz.ntmps158, Tryz.results158]
     (repeat ((repeat1' (first | simp -implicitDefEqProofs -dsimp only [go_sem, ab.v, b10, b11, b12, b13, b14] | simp -dsimp (disch := omega) only [wrap_i64])); repeat (with_reducible refine ah ?_)))
     (first | refine ak.at (iL) ⟨leA, trivial⟩ ?_ | refine aj.at (iL) ⟨leA, trivial⟩ ?_)
     (repeat ((repeat1' (first | simp -implicitDefEqProofs -dsimp only [go_sem] | simp -dsimp (disch := omega) only [wrap_i64])); repeat (with_reducible refine ah ?_)))
     (first | refine ak.at (lL) ⟨leA, leA, trivial⟩ ?_ | refine aj.at (lL) ⟨leA, leA, trivial⟩ ?_)
     (repeat ((repeat1' (first | simp -implicitDefEqProofs -dsimp only [go_sem] | simp -dsimp (disch := omega) only [wrap_i64])); repeat (with_reducible refine ah ?_)))
     exact al.ax rfl (by rfl)
   | some p =>
     rw [hl] at iL l
     simp only [Option.map_some, Option.getD_some, Option.isSome_some] at iL l
     have lL := pq [p.1, p.2] true (fun n hn => by
       simp only [List.mem_cons, List.not_mem_nil, or_false] at hn
       rcases hn with rfl | rfl
       · exact ⟨⟨by omega, by omega⟩, by omega⟩
       · exact ⟨⟨by omega, by omega⟩, by omega⟩) (by simp)
     refine Ctr.intro Tryz.mixed Tryz.func158 rfl Tryz.xb ?_
     simp -implicitDefEqProofs -dsimp only [go_sem, Tryz.ntmps158, Tryz.results158]
     (repeat ((repeat1' (first | simp -implicitDefEqProofs -dsimp only [go_sem, ab.v, b10, b11, b12, b13, b14] | simp -dsimp (disch := omega) only [wrap_i64])); repeat (with_reducible refine ah ?_)))
     (first | refine ak.at (iL) ⟨leA, trivial⟩ ?_ | refine aj.at (iL) ⟨leA, trivial⟩ ?_)
     (repeat ((repeat1' (first | simp -implicitDefEqProofs -dsimp only [go_sem] | simp -dsimp (disch := omega) only [wrap_i64])); repeat (with_reducible refine ah ?_)))
     (first | refine ak.at (lL) ⟨leA, leA, trivial⟩ ?_ | refine aj.at (lL) ⟨leA, leA, trivial⟩ ?_)
     (repeat ((repeat1' (first | simp -implicitDefEqProofs -dsimp only [go_sem] | simp -dsimp (disch := omega) only [wrap_i64])); repeat (with_reducible refine ah ?_)))
     exact al.ax rfl (by rfl)
 · have d0 : decide (q = 10) = false := decide_eq_false q1
   have d1 : decide (q = 11) = false := decide_eq_false q2
   have d2 : decide (q = 12) = false := decide_eq_false q3
   have d3 : decide (q = 13) = false := decide_eq_false q4
   have d4 : decide (q = 14) = false := decide_eq_false q5
   have e : xd w q = none := by rw [xd, if_neg q1, if_neg q2, if_neg q3, if_neg q4, if_neg q5]
   rw [e]
   refine Ctr.intro Tryz.mixed Tryz.func158 rfl Tryz.xb ?_
   simp -implicitDefEqProofs -dsimp only [go_sem, Tryz.ntmps158, Tryz.results158]
   (repeat ((repeat1' (first | simp -implicitDefEqProofs -dsimp only [go_sem, ab.v, b10, b11, b12, b13, b14, d0, d1, d2, d3, d4] | simp -dsimp (disch := omega) only [wrap_i64])); repeat (with_reducible refine ah ?_)))
   exact al.ax rfl (by rfl)
theorem aoe (c : ai) (h : ByteArray) (n : Int) (hw : wB c.ab = true) (hn : -999999 ≤ n ∧ n ≤ 999999) : Ctr Tryz.prog 159 [c.v, .str h, .int .i64 n] [] (.tup [(cW c (l9 c.ab (kwd h) [n]).1).v, .str (l9 c.ab (kwd h) [n]).2]) [] := by
 have m1 := jm c 1 0 n hw hn.2
 have m2 := jm c 2 n 0 hw (by omega)
 have m3 := jm c 3 n 0 hw (by omega)
 have m5 := jm c 7 n 0 hw (by omega)
 have m6 := jm c 8 n 0 hw (by omega)
 have mT := aa4 c.ab n hw
 have b1 := kwb1 h
 have b3 := kwb3 h
 have b4 := kwb4 h
 have b5 := kwb5 h
 have b6 := kwb6 h
 have b9 := kwb9 h
 generalize kwd h = q at *
 have hq : q = 1 ∨ q = 3 ∨ q = 4 ∨ q = 5 ∨ q = 6 ∨ q = 9 ∨ (q ≠ 1 ∧ q ≠ 3 ∧ q ≠ 4 ∧ q ≠ 5 ∧ q ≠ 6 ∧ q ≠ 9) := by omega
 rcases hq with rfl | rfl | rfl | rfl | rfl | rfl | ⟨q1, q2, q3, q4, q5, q6⟩
 · rw [show l9 c.ab 1 [n] = lb c.ab 1 0 n from rfl]
   refine Ctr.intro Tryz.mixed Tryz.func159 rfl Tryz.xo ?_
   simp -implicitDefEqProofs -dsimp only [go_sem, Tryz.ntmps159, Tryz.results159]
   (repeat ((repeat1' (first | simp -implicitDefEqProofs -dsimp only [go_sem, ai.v, b1, b3, b4, b5, b6, b9] | simp -dsimp (disch := omega) only [wrap_i64])); repeat (with_reducible refine ah ?_)))
   (first | refine ak.at (m1) ⟨leA, leA, trivial⟩ ?_ | refine aj.at (m1) ⟨leA, leA, trivial⟩ ?_)
   (repeat ((repeat1' (first | simp -implicitDefEqProofs -dsimp only [go_sem, ai.v] | simp -dsimp (disch := omega) only [wrap_i64])); repeat (with_reducible refine ah ?_)))
   exact al.ax rfl (by rfl)
 · rw [show l9 c.ab 3 [n] = lb c.ab 2 n 0 from rfl]
   refine Ctr.intro Tryz.mixed Tryz.func159 rfl Tryz.xo ?_
   simp -implicitDefEqProofs -dsimp only [go_sem, Tryz.ntmps159, Tryz.results159]
   (repeat ((repeat1' (first | simp -implicitDefEqProofs -dsimp only [go_sem, ai.v, b1, b3, b4, b5, b6, b9] | simp -dsimp (disch := omega) only [wrap_i64])); repeat (with_reducible refine ah ?_)))
   (first | refine ak.at (m2) ⟨leA, leA, trivial⟩ ?_ | refine aj.at (m2) ⟨leA, leA, trivial⟩ ?_)
   (repeat ((repeat1' (first | simp -implicitDefEqProofs -dsimp only [go_sem, ai.v] | simp -dsimp (disch := omega) only [wrap_i64])); repeat (with_reducible refine ah ?_)))
   exact al.ax rfl (by rfl)
 · rw [show l9 c.ab 4 [n] = lb c.ab 3 n 0 from rfl]
   refine Ctr.intro Tryz.mixed Tryz.func159 rfl Tryz.xo ?_
   simp -implicitDefEqProofs -dsimp only [go_sem, Tryz.ntmps159, Tryz.results159]
   (repeat ((repeat1' (first | simp -implicitDefEqProofs -dsimp only [go_sem, ai.v, b1, b3, b4, b5, b6, b9] | simp -dsimp (disch := omega) only [wrap_i64])); repeat (with_reducible refine ah ?_)))
   (first | refine ak.at (m3) ⟨leA, leA, trivial⟩ ?_ | refine aj.at (m3) ⟨leA, leA, trivial⟩ ?_)
   (repeat ((repeat1' (first | simp -implicitDefEqProofs -dsimp only [go_sem, ai.v] | simp -dsimp (disch := omega) only [wrap_i64])); repeat (with_reducible refine ah ?_)))
   exact al.ax rfl (by rfl)
 · rw [show l9 c.ab 5 [n] = lb c.ab 7 n 0 from rfl]
   refine Ctr.intro Tryz.mixed Tryz.func159 rfl Tryz.xo ?_
   simp -implicitDefEqProofs -dsimp only [go_sem, Tryz.ntmps159, Tryz.results159]
   (repeat ((repeat1' (first | simp -implicitDefEqProofs -dsimp only [go_sem, ai.v, b1, b3, b4, b5, b6, b9] | simp -dsimp (disch := omega) only [wrap_i64])); repeat (with_reducible refine ah ?_)))
   (first | refine ak.at (m5) ⟨leA, leA, trivial⟩ ?_ | refine aj.at (m5) ⟨leA, leA, trivial⟩ ?_)
   (repeat ((repeat1' (first | simp -implicitDefEqProofs -dsimp only [go_sem, ai.v] | simp -dsimp (disch := omega) only [wrap_i64])); repeat (with_reducible refine ah ?_)))
   exact al.ax rfl (by rfl)
 · rw [show l9 c.ab 6 [n] = lb c.ab 8 n 0 from rfl]
   refine Ctr.intro Tryz.mixed Tryz.func159 rfl Tryz.xo ?_
   simp -implicitDefEqProofs -dsimp only [go_sem, Tryz.ntmps159, Tryz.results159]
   (repeat ((repeat1' (first | simp -implicitDefEqProofs -dsimp only [go_sem, ai.v, b1, b3, b4, b5, b6, b9] | simp -dsimp (disch := omega) only [wrap_i64])); repeat (with_reducible refine ah ?_)))
   (first | refine ak.at (m6) ⟨leA, leA, trivial⟩ ?_ | refine aj.at (m6) ⟨leA, leA, trivial⟩ ?_)
   (repeat ((repeat1' (first | simp -implicitDefEqProofs -dsimp only [go_sem, ai.v] | simp -dsimp (disch := omega) only [wrap_i64])); repeat (with_reducible refine ah ?_)))
   exact al.ax rfl (by rfl)
 · rw [show l9 c.ab 9 [n] = (c.ab, (abq c.ab n).getD wQ) from rfl]
   refine Ctr.intro Tryz.mixed Tryz.func159 rfl Tryz.xo ?_
   simp -implicitDefEqProofs -dsimp only [go_sem, Tryz.ntmps159, Tryz.results159]
   (repeat ((repeat1' (first | simp -implicitDefEqProofs -dsimp only [go_sem, ai.v, b1, b3, b4, b5, b6, b9] | simp -dsimp (disch := omega) only [wrap_i64])); repeat (with_reducible refine ah ?_)))
   (first | refine ak.at (mT) ⟨leA, leA, trivial⟩ ?_ | refine aj.at (mT) ⟨leA, leA, trivial⟩ ?_)
   (repeat ((repeat1' (first | simp -implicitDefEqProofs -dsimp only [go_sem, ai.v] | simp -dsimp (disch := omega) only [wrap_i64])); repeat (with_reducible refine ah ?_)))
   exact al.ax rfl (by rfl)
 · have d1 : decide (q = 1) = false := decide_eq_false q1
   have d2 : decide (q = 3) = false := decide_eq_false q2
   have d3 : decide (q = 4) = false := decide_eq_false q3
   have d4 : decide (q = 5) = false := decide_eq_false q4
   have d5 : decide (q = 6) = false := decide_eq_false q5
   have d6 : decide (q = 9) = false := decide_eq_false q6
   have e : jc q [n] = none := by simp only [jc]; rw [if_neg q1, if_neg q2, if_neg q3, if_neg q4, if_neg q5]
   rw [ajb e, if_neg q6]
   refine Ctr.intro Tryz.mixed Tryz.func159 rfl Tryz.xo ?_
   simp -implicitDefEqProofs -dsimp only [go_sem, Tryz.ntmps159, Tryz.results159]
   (repeat ((repeat1' (first | simp -implicitDefEqProofs -dsimp only [go_sem, ai.v, b1, b3, b4, b5, b6, b9, d1, d2, d3, d4, d5, d6] | simp -dsimp (disch := omega) only [wrap_i64])); repeat (with_reducible refine ah ?_)))
   exact al.ax rfl (by rfl)
theorem aod (c : ai) (h : ByteArray) (n v : Int) (hw : wB c.ab = true) (hn : -999999 ≤ v ∧ v ≤ 999999) : Ctr Tryz.prog 160 [c.v, .str h, .int .i64 n, .int .i64 v] [] (.tup [(cW c (l9 c.ab (kwd h) [n, v]).1).v, .str (l9 c.ab (kwd h) [n, v]).2]) [] := by
 have m5 := jm c 5 n v hw hn.2
 have m6 := jm c 6 n v hw hn.2
 have b7 := kwb7 h
 have b8 := kwb8 h
 generalize kwd h = q at *
 have hq : q = 7 ∨ q = 8 ∨ (q ≠ 7 ∧ q ≠ 8) := by omega
 rcases hq with rfl | rfl | ⟨q1, q2⟩
 · rw [show l9 c.ab 7 [n, v] = lb c.ab 5 n v from rfl]
   refine Ctr.intro Tryz.mixed Tryz.func160 rfl Tryz.akj ?_
   simp -implicitDefEqProofs -dsimp only [go_sem, Tryz.ntmps160, Tryz.results160]
   (repeat ((repeat1' (first | simp -implicitDefEqProofs -dsimp only [go_sem, ai.v, b7, b8] | simp -dsimp (disch := omega) only [wrap_i64])); repeat (with_reducible refine ah ?_)))
   (first | refine ak.at (m5) ⟨leA, leA, trivial⟩ ?_ | refine aj.at (m5) ⟨leA, leA, trivial⟩ ?_)
   (repeat ((repeat1' (first | simp -implicitDefEqProofs -dsimp only [go_sem, ai.v] | simp -dsimp (disch := omega) only [wrap_i64])); repeat (with_reducible refine ah ?_)))
   exact al.ax rfl (by rfl)
 · rw [show l9 c.ab 8 [n, v] = lb c.ab 6 n v from rfl]
   refine Ctr.intro Tryz.mixed Tryz.func160 rfl Tryz.akj ?_
   simp -implicitDefEqProofs -dsimp only [go_sem, Tryz.ntmps160, Tryz.results160]
   (repeat ((repeat1' (first | simp -implicitDefEqProofs -dsimp only [go_sem, ai.v, b7, b8] | simp -dsimp (disch := omega) only [wrap_i64])); repeat (with_reducible refine ah ?_)))
   (first | refine ak.at (m6) ⟨leA, leA, trivial⟩ ?_ | refine aj.at (m6) ⟨leA, leA, trivial⟩ ?_)
   (repeat ((repeat1' (first | simp -implicitDefEqProofs -dsimp only [go_sem, ai.v] | simp -dsimp (disch := omega) only [wrap_i64])); repeat (with_reducible refine ah ?_)))
   exact al.ax rfl (by rfl)
 · have d1 : decide (q = 7) = false := decide_eq_false q1
   have d2 : decide (q = 8) = false := decide_eq_false q2
   have e : jc q [n, v] = none := by simp only [jc]; rw [if_neg q1, if_neg q2]
   rw [acs e]
   refine Ctr.intro Tryz.mixed Tryz.func160 rfl Tryz.akj ?_
   simp -implicitDefEqProofs -dsimp only [go_sem, Tryz.ntmps160, Tryz.results160]
   (repeat ((repeat1' (first | simp -implicitDefEqProofs -dsimp only [go_sem, ai.v, b7, b8, d1, d2] | simp -dsimp (disch := omega) only [wrap_i64])); repeat (with_reducible refine ah ?_)))
   exact al.ax rfl (by rfl)
end Go.Proofs
end
