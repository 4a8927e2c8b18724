/-
  A part of the proof: texts put together by a program of the prover. Conditions: none.
-/
import Derived.Test.YtfpkiomipjmabaaGreatDoorZC8
import Derived.Test.YtfpkiomipjmabaaGreatDoorZC9
import Derived.Test.YtfpkiomipjmabaaGreatDoorZC19
import Derived.ProofKit
import Derived.Deep.Slices
set_option linter.unusedSimpArgs false
set_option linter.unusedVariables false
section
set_option maxRecDepth 100000
set_option maxHeartbeats 4000000
namespace Go.Proofs
open Go.Lv
theorem abg (s : ByteArray) (c : UInt8) (hs : s.size ≤ 16777216) : Ctr Tryz.prog 73 [.str s, .int .u8 c.toNat] [] (StringS.sl (gw c s)) [] :=
 (th s c hs).rn (by
   refine al.pick [] (by decide) (fun j hj => by omega) (.inl ?_) rfl
   have e := e9 (cs := StringS.cs) (gw c s)
   simp [ren, bg, posOf, sx, ae] at e ⊢
   exact e.symm)
theorem atf {w b : ab} {line : ByteArray} (h : yj w line = some b) : wB b = true := by
 unfold yj at h
 split at h
 · cases h
 · split at h
   · exact (xz h).2.2.2.2
   · cases h
theorem ab6 {w : ab} {line : ByteArray} (h : wB w = true) : wB (dm w line).1 = true := by
 rw [aip]
 cases hs : yj w line with
 | none => exact h
 | some b => exact atf hs
def y3 : List V := [.int .i64 0, .nilsl, .nilsl, .int .i64 0, .int .i64 0, .str ByteArray.empty, .str ByteArray.empty, .int .i64 0]
theorem af5 (c : ai) (line : ByteArray) (hl : line.size ≤ 1000) (hw : wB c.ab = true) : Ctr Tryz.prog 100 [c.v, .str line] [] (.tup [(cW c (dm c.ab line).1).v, .str (dm c.ab line).2]) [] := by
 have W := dt hw
 have pl := W.plen
 have sl := W.slen
 obtain ⟨x, T, hS⟩ := zu 32 line
 have hT : (gw 32 line).tail = T := by rw [hS]; rfl
 have hx : (gw 32 line).headD ⟨#[]⟩ = x := by rw [hS]; rfl
 have hsp := abg line 32 (by omega)
 rw [show (((32 : UInt8).toNat : Nat) : Int) = 32 from rfl] at hsp
 have hlen := aef 32 line
 have hsz : ∀ y ∈ x :: T, y.size ≤ line.size := fun y hy => rz 32 line (by rw [hS]; exact hy)
 rw [hS] at hsp hlen
 simp only [List.length_cons] at hlen
 have hr0 : (rows StringS.cs (x :: T)).take 1 = [.str x] := rfl
 refine Ctr.intro Tryz.mixed Tryz.func100 rfl Tryz.avx ?_
 simp -implicitDefEqProofs -dsimp only [go_sem, Tryz.ntmps100, Tryz.results100]
 (repeat ((repeat1' (first | simp -implicitDefEqProofs -dsimp only [go_sem, ai.v] | simp -dsimp (disch := omega) only [wrap_i64])); repeat (with_reducible refine ah ?_)))
 (first | refine ak.at (hsp) ⟨leA, leA, trivial⟩ ?_ | refine aj.at (hsp) ⟨leA, leA, trivial⟩ ?_)
 (repeat ((repeat1' (first | simp -implicitDefEqProofs -dsimp only [go_sem] | simp -dsimp (disch := omega) only [wrap_i64])); repeat (with_reducible refine ah ?_)))
 refine cw.intro (fun i : Nat => i ≤ T.length ∧ (T.take i).all (fun s => (cq s).isSome) = true) (fun i => ⟨[.undef, .str line, .ptr 0 0, .undef, .ptr 1 0, .undef, StringS.sl (x :: T), .osl 2 0 i 1, .int .i64 ((i : Int) + 1), .undef, .undef, .undef, .undef, .undef, .undef, .undef, .undef, .undef, .undef, .undef, .undef, .undef, .undef, .undef, .undef, .undef, .undef, .undef, .undef, .undef, .undef, .undef, .undef, .undef, .undef, .undef, .undef, .undef, .undef, .undef, .undef, .undef, .undef, .undef, .undef, .undef, .undef, .undef, .undef, .undef, .undef, .undef, .undef, .undef, .undef, .undef, .undef, .undef, .undef, .undef, .undef, .undef, .undef, .undef, .undef, .undef, .undef, .undef, .undef, .undef, .undef, .undef, .undef, .undef, .undef, .undef, .undef, .undef, .undef], [some c.cs, some y3, some (rows IntS.cs ((T.take i).map fun s => (cq s).getD 0))], 0⟩) (fun i => T.length - i) 0 ⟨Nat.zero_le _, rfl⟩ ?_ (fun i hi => ?_)
 · refine br.cut (3) (by simp) (by simp) ?_ ?_
   · simp [LeC, LeV, ren, bm]
   · simp [cb, db, ren, bm, ae, ai.cs, y3, adx]
 simp -implicitDefEqProofs -dsimp only [go_sem]
 have hll : (((x :: T).length : Nat) : Int) = (T.length : Int) + 1 := by rw [List.length_cons]; omega
 refine bd.split (fun h1 => ?_) (fun h1 => ?_)
 · have hi' : i < T.length := by have := of_decide_eq_true h1; omega
   have hr := bt StringS.csl (L := x :: T) (i := i + 1) (by rw [List.length_cons]; omega)
   rw [List.getElem_cons_succ] at hr
   have hst : (T.take (i + 1)).map (fun s => (cq s).getD 0) = (T.take i).map (fun s => (cq s).getD 0) ++ [(cq T[i]).getD 0] := by rw [List.take_succ_eq_append_getElem hi', List.map_append]; rfl
   have hlen2 : ((T.take i).map fun s => (cq s).getD 0).length = i := by simp; omega
   have ip := agr T[i] (by have := hsz T[i] (List.mem_cons_of_mem _ (List.getElem_mem hi')); omega)
   rw [jj] at ip
   have hti : ((i : Int) + 1).toNat = i + 1 := by omega
   (repeat ((repeat1' (first | simp -implicitDefEqProofs -dsimp only [go_sem, h1, hti, hr, StringS.cs] | simp -dsimp (disch := omega) only [wrap_i64])); repeat (with_reducible refine ah ?_)))
   cases hread : (cq T[i]).isSome with
   | false =>
     have hno := z6 hi' hread
     have hrun : dm c.ab line = (c.ab, wQ) := by unfold dm; rw [hT, hno]
     rw [hread] at ip
     (first | refine ak.at (ip) ⟨leA, trivial⟩ ?_ | refine aj.at (ip) ⟨leA, trivial⟩ ?_)
     (repeat ((repeat1' (first | simp -implicitDefEqProofs -dsimp only [go_sem, ai.cs, y3] | simp -dsimp (disch := omega) only [wrap_i64])); repeat (with_reducible refine ah ?_)))
     rw [hrun]
     exact al.ax rfl (by rfl)
   | true =>
     rw [hread] at ip
     (first | refine ak.at (ip) ⟨leA, trivial⟩ ?_ | refine aj.at (ip) ⟨leA, trivial⟩ ?_)
     (repeat ((repeat1' (first | simp -implicitDefEqProofs -dsimp only [go_sem, ay, bb, Nat.mul_one, hlen2] | simp -dsimp (disch := omega) only [wrap_i64])); repeat (with_reducible refine ah ?_)))
     refine ⟨i + 1, ⟨hi', by rw [List.take_succ_eq_append_getElem hi', List.all_append, hi.2]; simp [hread]⟩, ?_, by omega⟩
     refine br.cut (3) (by simp) (by simp) ?_ ?_
     · simp [LeC, LeV, ren, bm]
     · rw [hst, ← dk]
       simp [cb, db, ren, bm, ae, cx, jk, IntS.cs, ai.cs, y3]
 have hi' : i = T.length := by have := of_decide_eq_false h1; omega
 subst hi'
 have hnum := xm hi.2
 have hbd := aaq hnum
 rw [List.take_length]
 have hnl : (T.map fun s => (cq s).getD 0).length = T.length := List.length_map _
 have hrun : dm c.ab line = l9 c.ab (kwd x) (T.map fun s => (cq s).getD 0) := by unfold dm; rw [hT, hnum, hx]
 rw [hrun]
 have hxl : T = [] → x = line := fun e => apk (by rw [hS, e])
 clear hnum
 have hns : (T.map fun s => (cq s).getD 0).length ≤ 1000 := by omega
 have htn : T = [] ↔ (T.map fun s => (cq s).getD 0) = [] := by cases T <;> simp
 have h1' : decide ((T.length : Int) + 1 < ((T.length + 1 : Nat) : Int)) = false := decide_eq_false (by omega)
 (repeat ((repeat1' (first | simp -implicitDefEqProofs -dsimp only [go_sem, h1, h1'] | simp -dsimp (disch := omega) only [wrap_i64])); repeat (with_reducible refine ah ?_)))
 rw [← hnl]
 generalize (T.map fun s => (cq s).getD 0) = ns at *
 have z00 : (((0 : Nat) : Int) == 0) = true := rfl
 have z01 : (((0 : Nat) : Int) == 1) = false := rfl
 have z02 : (((0 : Nat) : Int) == 2) = false := rfl
 have z10 : (((1 : Nat) : Int) == 0) = false := rfl
 have z11 : (((1 : Nat) : Int) == 1) = true := rfl
 have z12 : (((1 : Nat) : Int) == 2) = false := rfl
 have z20 : (((2 : Nat) : Int) == 0) = false := rfl
 have z21 : (((2 : Nat) : Int) == 1) = false := rfl
 have z22 : (((2 : Nat) : Int) == 2) = true := rfl
 rcases ns with _ | ⟨n1, _ | ⟨n2, _ | ⟨n3, L⟩⟩⟩
 · have hx2 : x = line := hxl (htn.2 rfl)
   subst hx2
   have b2 := kwb2 x
   have m4 := jm c 4 0 0 hw (by omega)
   have mw := akk c.ab x hw
   by_cases q2 : kwd x = 2
   · have d2 : decide (kwd x = 2) = true := decide_eq_true q2
     have e : l9 c.ab (kwd x) [] = lb c.ab 4 0 0 := by rw [q2]; rfl
     rw [e]
     (repeat ((repeat1' (first | simp -implicitDefEqProofs -dsimp only [go_sem, b2, d2, ai.cs, y3, z00, z01, z02, z10, z11, z12, z20, z21, z22] | simp -dsimp (disch := omega) only [wrap_i64])); repeat (with_reducible refine ah ?_)))
     (first | refine ak.at (m4) ⟨leA, leA, trivial⟩ ?_ | refine aj.at (m4) ⟨leA, leA, trivial⟩ ?_)
     (repeat ((repeat1' (first | simp -implicitDefEqProofs -dsimp only [go_sem, ai.v] | simp -dsimp (disch := omega) only [wrap_i64])); repeat (with_reducible refine ah ?_)))
     exact al.ax rfl (by rfl)
   · have d2 : decide (kwd x = 2) = false := decide_eq_false q2
     have e : jc (kwd x) [] = none := by simp only [jc]; rw [if_neg q2]
     rw [aj1 e]
     (repeat ((repeat1' (first | simp -implicitDefEqProofs -dsimp only [go_sem, b2, d2, ai.cs, y3, z00, z01, z02, z10, z11, z12, z20, z21, z22] | simp -dsimp (disch := omega) only [wrap_i64])); repeat (with_reducible refine ah ?_)))
     (first | refine ak.at (mw) ⟨leA, leA, trivial⟩ ?_ | refine aj.at (mw) ⟨leA, leA, trivial⟩ ?_)
     (repeat ((repeat1' (first | simp -implicitDefEqProofs -dsimp only [go_sem, ai.v] | simp -dsimp (disch := omega) only [wrap_i64])); repeat (with_reducible refine ah ?_)))
     exact al.ax rfl (by rfl)
 · have hn1 := hbd n1 (by simp)
   have hr3 : rows IntS.cs [n1] = [.int .i64 n1] := rfl
   have m1 := aoe c x n1 hw hn1
   (repeat ((repeat1' (first | simp -implicitDefEqProofs -dsimp only [go_sem, hr3, hr0, ai.cs, y3, z00, z01, z02, z10, z11, z12, z20, z21, z22] | simp -dsimp (disch := omega) only [wrap_i64])); repeat (with_reducible refine ah ?_)))
   (first | refine ak.at (m1) ⟨leA, leA, leA, trivial⟩ ?_ | refine aj.at (m1) ⟨leA, leA, leA, trivial⟩ ?_)
   (repeat ((repeat1' (first | simp -implicitDefEqProofs -dsimp only [go_sem, ai.v] | simp -dsimp (disch := omega) only [wrap_i64])); repeat (with_reducible refine ah ?_)))
   exact al.ax rfl (by rfl)
 · have hn2 := hbd n2 (by simp)
   have hr3 : rows IntS.cs [n1, n2] = [.int .i64 n1, .int .i64 n2] := rfl
   have m2 := aod c x n1 n2 hw hn2
   (repeat ((repeat1' (first | simp -implicitDefEqProofs -dsimp only [go_sem, hr3, hr0, ai.cs, y3, z00, z01, z02, z10, z11, z12, z20, z21, z22] | simp -dsimp (disch := omega) only [wrap_i64])); repeat (with_reducible refine ah ?_)))
   (first | refine ak.at (m2) ⟨leA, leA, leA, leA, trivial⟩ ?_ | refine aj.at (m2) ⟨leA, leA, leA, leA, trivial⟩ ?_)
   (repeat ((repeat1' (first | simp -implicitDefEqProofs -dsimp only [go_sem, ai.v] | simp -dsimp (disch := omega) only [wrap_i64])); repeat (with_reducible refine ah ?_)))
   exact al.ax rfl (by rfl)
 · have c1 : (((n1 :: n2 :: n3 :: L).length : Int) == 1) = false := by simp; omega
   have c2 : (((n1 :: n2 :: n3 :: L).length : Int) == 2) = false := by simp; omega
   have c0 : (((n1 :: n2 :: n3 :: L).length : Int) == 0) = false := by simp; omega
   have e : jc (kwd x) (n1 :: n2 :: n3 :: L) = none := rfl
   rw [acs e]
   generalize n1 :: n2 :: n3 :: L = ns at *
   (repeat ((repeat1' (first | simp -implicitDefEqProofs -dsimp only [go_sem, c0, c1, c2, ai.cs, y3] | simp -dsimp (disch := omega) only [wrap_i64])); repeat (with_reducible refine ah ?_)))
   exact al.ax rfl (by rfl)
theorem acu (c : ai) (hp : c.ab.Posts.length ≤ 16777216) (hs : c.ab.Shocks.length ≤ 16777216) : Ctr Tryz.prog 97 [c.v] [] (c.o 0 1) [some (rows az.cs c.ab.Posts), some (rows an.cs c.ab.Shocks)] := by
 have h := ix c.ab hp hs
 refine Ctr.intro Tryz.mixed Tryz.func97 rfl Tryz.auc ?_
 simp -implicitDefEqProofs -dsimp only [go_sem, Tryz.ntmps97, Tryz.results97]
 (repeat ((repeat1' (first | simp -implicitDefEqProofs -dsimp only [go_sem, ai.v] | simp -dsimp (disch := omega) only [wrap_i64])); repeat (with_reducible refine ah ?_)))
 (first | refine ak.at (h) ⟨leA, trivial⟩ ?_ | refine aj.at (h) ⟨leA, trivial⟩ ?_)
 (repeat ((repeat1' (first | simp -implicitDefEqProofs -dsimp only [go_sem, ab.o] | simp -dsimp (disch := omega) only [wrap_i64])); repeat (with_reducible refine ah ?_)))
 refine al.pick [2, 3] (by decide) (fun j hj => by omega) (.inl ?_) ?_
 · first | rfl | (simp [ren, bg, posOf, ai.o]; done)
 · simp only [bc, List.map_cons, List.map_nil, bh, List.getElem?_cons_zero, List.getElem?_cons_succ, ae]
theorem a3b (c : ai) : al 0 (c.ab.o 0 1) [some (rows az.cs c.ab.Posts), some (rows an.cs c.ab.Shocks)] c.ab.v [] := by
 refine al.pick [] (by decide) (fun j hj => by omega) (.inl ?_) rfl
 have e1 := e9 (cs := az.cs) c.ab.Posts
 have e2 := e9 (cs := an.cs) c.ab.Shocks
 simp [ab.o, ab.v, ren, bg, posOf, sx, ae] at e1 e2 ⊢
 exact ⟨e1.symm, e2.symm⟩
theorem aao (c : ai) (hp : c.ab.Posts.length ≤ 16777216) (hs : c.ab.Shocks.length ≤ 16777216) : Ctr Tryz.prog 97 [c.v] [] c.v [] := by
 have h := (ix c.ab hp hs).rn (a3b c)
 refine Ctr.intro Tryz.mixed Tryz.func97 rfl Tryz.auc ?_
 simp -implicitDefEqProofs -dsimp only [go_sem, Tryz.ntmps97, Tryz.results97]
 (repeat ((repeat1' (first | simp -implicitDefEqProofs -dsimp only [go_sem, ai.v] | simp -dsimp (disch := omega) only [wrap_i64])); repeat (with_reducible refine ah ?_)))
 (first | refine ak.at (h) ⟨leA, trivial⟩ ?_ | refine aj.at (h) ⟨leA, trivial⟩ ?_)
 (repeat ((repeat1' (first | simp -implicitDefEqProofs -dsimp only [go_sem, ab.v] | simp -dsimp (disch := omega) only [wrap_i64])); repeat (with_reducible refine ah ?_)))
 exact al.ax rfl (by rfl)
theorem aj0 (c : ai) (line : ByteArray) (hc : c.fits) (hl : line.size ≤ 4194304) : Ctr Tryz.prog 34 [c.v, .str line] [] (.tup [(dj c line).1.v, .str (dj c line).2]) [] := by
 obtain ⟨f0, f1, f2, f3⟩ := hc
 have hc : c.fits := ⟨f0, f1, f2, f3⟩
 have he2 : (ByteArray.empty : ByteArray).size = 0 := rfl
 have hV := pd ⟨line, ByteArray.empty⟩ (by dsimp only; omega) (by dsimp only; omega)
 have hO := aao c (by omega) (by omega)
 have hG := w3 c hc
 cases hb : ni c with
 | false =>
   rw [show dj c line = (c, wNo) by rw [dj, if_pos hb]]
   rw [hb] at hG
   refine Ctr.intro Tryz.mixed Tryz.func34 rfl Tryz.abb ?_
   simp -implicitDefEqProofs -dsimp only [go_sem, Tryz.ntmps34, Tryz.results34]
   (repeat ((repeat1' (first | simp -implicitDefEqProofs -dsimp only [go_sem, ai.v] | simp -dsimp (disch := omega) only [wrap_i64])); repeat (with_reducible refine ah ?_)))
   (first | refine ak.at (hO) ⟨leA, trivial⟩ ?_ | refine aj.at (hO) ⟨leA, trivial⟩ ?_)
   (repeat ((repeat1' (first | simp -implicitDefEqProofs -dsimp only [go_sem, ai.v] | simp -dsimp (disch := omega) only [wrap_i64])); repeat (with_reducible refine ah ?_)))
   (first | refine ak.at (hG) ⟨leA, trivial⟩ ?_ | refine aj.at (hG) ⟨leA, trivial⟩ ?_)
   (repeat ((repeat1' (first | simp -implicitDefEqProofs -dsimp only [go_sem] | simp -dsimp (disch := omega) only [wrap_i64])); repeat (with_reducible refine ah ?_)))
   exact al.ax rfl (by rfl)
 | true =>
   rw [hb] at hG
   cases hr : iw ⟨line, ByteArray.empty⟩ with
   | false =>
     rw [show dj c line = (c, aty) by rw [dj, if_neg (by simp [hb]), if_pos hr]]
     rw [hr] at hV
     refine Ctr.intro Tryz.mixed Tryz.func34 rfl Tryz.abb ?_
     simp -implicitDefEqProofs -dsimp only [go_sem, Tryz.ntmps34, Tryz.results34]
     (repeat ((repeat1' (first | simp -implicitDefEqProofs -dsimp only [go_sem, ai.v] | simp -dsimp (disch := omega) only [wrap_i64])); repeat (with_reducible refine ah ?_)))
     (first | refine ak.at (hO) ⟨leA, trivial⟩ ?_ | refine aj.at (hO) ⟨leA, trivial⟩ ?_)
     (repeat ((repeat1' (first | simp -implicitDefEqProofs -dsimp only [go_sem, ai.v] | simp -dsimp (disch := omega) only [wrap_i64])); repeat (with_reducible refine ah ?_)))
     (first | refine ak.at (hG) ⟨leA, trivial⟩ ?_ | refine aj.at (hG) ⟨leA, trivial⟩ ?_)
     (repeat ((repeat1' (first | simp -implicitDefEqProofs -dsimp only [go_sem] | simp -dsimp (disch := omega) only [wrap_i64])); repeat (with_reducible refine ah ?_)))
     (first | refine ak.at (hV) ⟨leA, trivial⟩ ?_ | refine aj.at (hV) ⟨leA, trivial⟩ ?_)
     (repeat ((repeat1' (first | simp -implicitDefEqProofs -dsimp only [go_sem, aw.v] | simp -dsimp (disch := omega) only [wrap_i64])); repeat (with_reducible refine ah ?_)))
     exact al.ax rfl (by rfl)
   | true =>
     have hl2 := aac hr
     obtain ⟨hw, hlg⟩ := r8 hb
     rw [hr] at hV
     by_cases hf : c.Log.Count = 60
     · have hf' : (c.Log.Count == 60) = true := by simpa using hf
       rw [show dj c line = (c, al8) by rw [dj, if_neg (by simp [hb]), if_neg (by simp [hr]), if_pos hf]]
       refine Ctr.intro Tryz.mixed Tryz.func34 rfl Tryz.abb ?_
       simp -implicitDefEqProofs -dsimp only [go_sem, Tryz.ntmps34, Tryz.results34]
       (repeat ((repeat1' (first | simp -implicitDefEqProofs -dsimp only [go_sem, ai.v] | simp -dsimp (disch := omega) only [wrap_i64])); repeat (with_reducible refine ah ?_)))
       (first | refine ak.at (hO) ⟨leA, trivial⟩ ?_ | refine aj.at (hO) ⟨leA, trivial⟩ ?_)
       (repeat ((repeat1' (first | simp -implicitDefEqProofs -dsimp only [go_sem, ai.v] | simp -dsimp (disch := omega) only [wrap_i64])); repeat (with_reducible refine ah ?_)))
       (first | refine ak.at (hG) ⟨leA, trivial⟩ ?_ | refine aj.at (hG) ⟨leA, trivial⟩ ?_)
       (repeat ((repeat1' (first | simp -implicitDefEqProofs -dsimp only [go_sem] | simp -dsimp (disch := omega) only [wrap_i64])); repeat (with_reducible refine ah ?_)))
       (first | refine ak.at (hV) ⟨leA, trivial⟩ ?_ | refine aj.at (hV) ⟨leA, trivial⟩ ?_)
       (repeat ((repeat1' (first | simp -implicitDefEqProofs -dsimp only [go_sem, aw.v, hf'] | simp -dsimp (disch := omega) only [wrap_i64])); repeat (with_reducible refine ah ?_)))
       exact al.ax rfl (by rfl)
     · have hf' : (c.Log.Count == 60) = false := by simpa using hf
       rw [show dj c line = (⟨(dm c.ab line).1, ago c.Log ⟨line, l6 (dm c.ab line).2⟩⟩, l6 (dm c.ab line).2) by rw [dj, if_neg (by simp [hb]), if_neg (by simp [hr]), if_neg hf]]
       have hcap : l6 (dm c.ab line).2 = if 200 < ((dm c.ab line).2.size : Int) then aaz else (dm c.ab line).2 := rfl
       have hcs : (l6 (dm c.ab line).2).size ≤ 200 := by
         rw [hcap]; split
         · decide
         · omega
       obtain ⟨z, hz⟩ := ah7 c.Log ⟨line, l6 (dm c.ab line).2⟩
       have iA := sc c.Log ⟨line, l6 (dm c.ab line).2⟩ f2 f3 (by dsimp only; omega) (by dsimp only; omega)
       rw [hz] at iA
       have hR := af5 c line (by omega) hw
       have hbl : (dm c.ab line).1.Posts.length ≤ 1048576 ∧ (dm c.ab line).1.Shocks.length ≤ 1048576 := by
         have h9 := dt (ab6 (line := line) hw)
         have := h9.plen
         have := h9.slen
         omega
       have hO2 := aao (cW c (dm c.ab line).1) (by have := hbl.1; show (dm c.ab line).1.Posts.length ≤ _; omega) (by have := hbl.2; show (dm c.ab line).1.Shocks.length ≤ _; omega)
       refine Ctr.intro Tryz.mixed Tryz.func34 rfl Tryz.abb ?_
       simp -implicitDefEqProofs -dsimp only [go_sem, Tryz.ntmps34, Tryz.results34]
       (repeat ((repeat1' (first | simp -implicitDefEqProofs -dsimp only [go_sem, ai.v] | simp -dsimp (disch := omega) only [wrap_i64])); repeat (with_reducible refine ah ?_)))
       (first | refine ak.at (hO) ⟨leA, trivial⟩ ?_ | refine aj.at (hO) ⟨leA, trivial⟩ ?_)
       (repeat ((repeat1' (first | simp -implicitDefEqProofs -dsimp only [go_sem, ai.v] | simp -dsimp (disch := omega) only [wrap_i64])); repeat (with_reducible refine ah ?_)))
       (first | refine ak.at (hG) ⟨leA, trivial⟩ ?_ | refine aj.at (hG) ⟨leA, trivial⟩ ?_)
       (repeat ((repeat1' (first | simp -implicitDefEqProofs -dsimp only [go_sem] | simp -dsimp (disch := omega) only [wrap_i64])); repeat (with_reducible refine ah ?_)))
       (first | refine ak.at (hV) ⟨leA, trivial⟩ ?_ | refine aj.at (hV) ⟨leA, trivial⟩ ?_)
       (repeat ((repeat1' (first | simp -implicitDefEqProofs -dsimp only [go_sem, aw.v, hf'] | simp -dsimp (disch := omega) only [wrap_i64])); repeat (with_reducible refine ah ?_)))
       (first | refine ak.at (hR) ⟨leA, leA, trivial⟩ ?_ | refine aj.at (hR) ⟨leA, leA, trivial⟩ ?_)
       (repeat ((repeat1' (first | simp -implicitDefEqProofs -dsimp only [go_sem, ai.v] | simp -dsimp (disch := omega) only [wrap_i64])); repeat (with_reducible refine ah ?_)))
       (first | refine ak.at (hO2) ⟨leA, trivial⟩ ?_ | refine aj.at (hO2) ⟨leA, trivial⟩ ?_)
       (repeat ((repeat1' (first | simp -implicitDefEqProofs -dsimp only [go_sem, ai.v] | simp -dsimp (disch := omega) only [wrap_i64])); repeat (with_reducible refine ah ?_)))
       refine bd.split (fun hg => ?_) (fun hg => ?_)
       · have e : l6 (dm c.ab line).2 = aaz := by rw [hcap, if_pos (of_decide_eq_true hg)]
         rw [e] at iA hz ⊢
         (repeat ((repeat1' (first | simp -implicitDefEqProofs -dsimp only [go_sem, hg] | simp -dsimp (disch := omega) only [wrap_i64])); repeat (with_reducible refine ah ?_)))
         (first | refine ak.at (iA) ⟨leA, leA, trivial⟩ ?_ | refine aj.at (iA) ⟨leA, leA, trivial⟩ ?_)
         (repeat ((repeat1' (first | simp -implicitDefEqProofs -dsimp only [go_sem, Log.v] | simp -dsimp (disch := omega) only [wrap_i64])); repeat (with_reducible refine ah ?_)))
         exact al.ax rfl (by rfl)
       · have e : l6 (dm c.ab line).2 = (dm c.ab line).2 := by rw [hcap, if_neg (of_decide_eq_false hg)]
         rw [e] at iA hz ⊢
         (repeat ((repeat1' (first | simp -implicitDefEqProofs -dsimp only [go_sem, hg] | simp -dsimp (disch := omega) only [wrap_i64])); repeat (with_reducible refine ah ?_)))
         (first | refine ak.at (iA) ⟨leA, leA, trivial⟩ ?_ | refine aj.at (iA) ⟨leA, leA, trivial⟩ ?_)
         (repeat ((repeat1' (first | simp -implicitDefEqProofs -dsimp only [go_sem, Log.v] | simp -dsimp (disch := omega) only [wrap_i64])); repeat (with_reducible refine ah ?_)))
         exact al.ax rfl (by rfl)
theorem ane (c : ai) (line : ByteArray) (hc : c.fits) (hl : line.size ≤ 4194304) : Ctr Tryz.prog 34 [c.v, .str line] [] (.tup [(dj c line).1.o 0 1, .str (dj c line).2]) [some (rows az.cs (dj c line).1.ab.Posts), some (rows an.cs (dj c line).1.ab.Shocks)] := by
 obtain ⟨f0, f1, f2, f3⟩ := hc
 have hc : c.fits := ⟨f0, f1, f2, f3⟩
 have he2 : (ByteArray.empty : ByteArray).size = 0 := rfl
 have hV := pd ⟨line, ByteArray.empty⟩ (by dsimp only; omega) (by dsimp only; omega)
 have hO1 := aao c (by omega) (by omega)
 have hO := acu c (by omega) (by omega)
 have hG := w3 c hc
 cases hb : ni c with
 | false =>
   rw [show dj c line = (c, wNo) by rw [dj, if_pos hb]]
   rw [hb] at hG
   refine Ctr.intro Tryz.mixed Tryz.func34 rfl Tryz.abb ?_
   simp -implicitDefEqProofs -dsimp only [go_sem, Tryz.ntmps34, Tryz.results34]
   (repeat ((repeat1' (first | simp -implicitDefEqProofs -dsimp only [go_sem, ai.v] | simp -dsimp (disch := omega) only [wrap_i64])); repeat (with_reducible refine ah ?_)))
   (first | refine ak.at (hO) ⟨leA, trivial⟩ ?_ | refine aj.at (hO) ⟨leA, trivial⟩ ?_)
   (repeat ((repeat1' (first | simp -implicitDefEqProofs -dsimp only [go_sem, ai.v, ai.o] | simp -dsimp (disch := omega) only [wrap_i64])); repeat (with_reducible refine ah ?_)))
   (first | refine ak.at (hG) ⟨leA, trivial⟩ ?_ | refine aj.at (hG) ⟨leA, trivial⟩ ?_)
   (repeat ((repeat1' (first | simp -implicitDefEqProofs -dsimp only [go_sem] | simp -dsimp (disch := omega) only [wrap_i64])); repeat (with_reducible refine ah ?_)))
   refine al.pick [2, 3] (by decide) (fun j hj => by omega) (.inl ?_) ?_
   · first | rfl | (simp [ren, bg, posOf, ai.o]; done)
   · simp only [bc, List.map_cons, List.map_nil, bh, List.getElem?_cons_zero, List.getElem?_cons_succ, ae]
 | true =>
   rw [hb] at hG
   cases hr : iw ⟨line, ByteArray.empty⟩ with
   | false =>
     rw [show dj c line = (c, aty) by rw [dj, if_neg (by simp [hb]), if_pos hr]]
     rw [hr] at hV
     refine Ctr.intro Tryz.mixed Tryz.func34 rfl Tryz.abb ?_
     simp -implicitDefEqProofs -dsimp only [go_sem, Tryz.ntmps34, Tryz.results34]
     (repeat ((repeat1' (first | simp -implicitDefEqProofs -dsimp only [go_sem, ai.v] | simp -dsimp (disch := omega) only [wrap_i64])); repeat (with_reducible refine ah ?_)))
     (first | refine ak.at (hO) ⟨leA, trivial⟩ ?_ | refine aj.at (hO) ⟨leA, trivial⟩ ?_)
     (repeat ((repeat1' (first | simp -implicitDefEqProofs -dsimp only [go_sem, ai.v, ai.o] | simp -dsimp (disch := omega) only [wrap_i64])); repeat (with_reducible refine ah ?_)))
     (first | refine ak.at (hG) ⟨leA, trivial⟩ ?_ | refine aj.at (hG) ⟨leA, trivial⟩ ?_)
     (repeat ((repeat1' (first | simp -implicitDefEqProofs -dsimp only [go_sem] | simp -dsimp (disch := omega) only [wrap_i64])); repeat (with_reducible refine ah ?_)))
     (first | refine ak.at (hV) ⟨leA, trivial⟩ ?_ | refine aj.at (hV) ⟨leA, trivial⟩ ?_)
     (repeat ((repeat1' (first | simp -implicitDefEqProofs -dsimp only [go_sem, aw.v] | simp -dsimp (disch := omega) only [wrap_i64])); repeat (with_reducible refine ah ?_)))
     refine al.pick [2, 3] (by decide) (fun j hj => by omega) (.inl ?_) ?_
     · first | rfl | (simp [ren, bg, posOf, ai.o]; done)
     · simp only [bc, List.map_cons, List.map_nil, bh, List.getElem?_cons_zero, List.getElem?_cons_succ, ae]
   | true =>
     have hl2 := aac hr
     obtain ⟨hw, hlg⟩ := r8 hb
     rw [hr] at hV
     by_cases hf : c.Log.Count = 60
     · have hf' : (c.Log.Count == 60) = true := by simpa using hf
       rw [show dj c line = (c, al8) by rw [dj, if_neg (by simp [hb]), if_neg (by simp [hr]), if_pos hf]]
       refine Ctr.intro Tryz.mixed Tryz.func34 rfl Tryz.abb ?_
       simp -implicitDefEqProofs -dsimp only [go_sem, Tryz.ntmps34, Tryz.results34]
       (repeat ((repeat1' (first | simp -implicitDefEqProofs -dsimp only [go_sem, ai.v] | simp -dsimp (disch := omega) only [wrap_i64])); repeat (with_reducible refine ah ?_)))
       (first | refine ak.at (hO) ⟨leA, trivial⟩ ?_ | refine aj.at (hO) ⟨leA, trivial⟩ ?_)
       (repeat ((repeat1' (first | simp -implicitDefEqProofs -dsimp only [go_sem, ai.v, ai.o] | simp -dsimp (disch := omega) only [wrap_i64])); repeat (with_reducible refine ah ?_)))
       (first | refine ak.at (hG) ⟨leA, trivial⟩ ?_ | refine aj.at (hG) ⟨leA, trivial⟩ ?_)
       (repeat ((repeat1' (first | simp -implicitDefEqProofs -dsimp only [go_sem] | simp -dsimp (disch := omega) only [wrap_i64])); repeat (with_reducible refine ah ?_)))
       (first | refine ak.at (hV) ⟨leA, trivial⟩ ?_ | refine aj.at (hV) ⟨leA, trivial⟩ ?_)
       (repeat ((repeat1' (first | simp -implicitDefEqProofs -dsimp only [go_sem, aw.v, hf'] | simp -dsimp (disch := omega) only [wrap_i64])); repeat (with_reducible refine ah ?_)))
       refine al.pick [2, 3] (by decide) (fun j hj => by omega) (.inl ?_) ?_
       · first | rfl | (simp [ren, bg, posOf, ai.o]; done)
       · simp only [bc, List.map_cons, List.map_nil, bh, List.getElem?_cons_zero, List.getElem?_cons_succ, ae]
     · have hf' : (c.Log.Count == 60) = false := by simpa using hf
       rw [show dj c line = (⟨(dm c.ab line).1, ago c.Log ⟨line, l6 (dm c.ab line).2⟩⟩, l6 (dm c.ab line).2) by rw [dj, if_neg (by simp [hb]), if_neg (by simp [hr]), if_neg hf]]
       have hcap : l6 (dm c.ab line).2 = if 200 < ((dm c.ab line).2.size : Int) then aaz else (dm c.ab line).2 := rfl
       have hcs : (l6 (dm c.ab line).2).size ≤ 200 := by
         rw [hcap]; split
         · decide
         · omega
       obtain ⟨z, hz⟩ := ah7 c.Log ⟨line, l6 (dm c.ab line).2⟩
       have iA := sc c.Log ⟨line, l6 (dm c.ab line).2⟩ f2 f3 (by dsimp only; omega) (by dsimp only; omega)
       rw [hz] at iA
       have hR := af5 c line (by omega) hw
       have hbl : (dm c.ab line).1.Posts.length ≤ 1048576 ∧ (dm c.ab line).1.Shocks.length ≤ 1048576 := by
         have h9 := dt (ab6 (line := line) hw)
         have := h9.plen
         have := h9.slen
         omega
       have hO2 := acu (cW c (dm c.ab line).1) (by have := hbl.1; show (dm c.ab line).1.Posts.length ≤ _; omega) (by have := hbl.2; show (dm c.ab line).1.Shocks.length ≤ _; omega)
       have hO := hO1
       refine Ctr.intro Tryz.mixed Tryz.func34 rfl Tryz.abb ?_
       simp -implicitDefEqProofs -dsimp only [go_sem, Tryz.ntmps34, Tryz.results34]
       (repeat ((repeat1' (first | simp -implicitDefEqProofs -dsimp only [go_sem, ai.v] | simp -dsimp (disch := omega) only [wrap_i64])); repeat (with_reducible refine ah ?_)))
       (first | refine ak.at (hO) ⟨leA, trivial⟩ ?_ | refine aj.at (hO) ⟨leA, trivial⟩ ?_)
       (repeat ((repeat1' (first | simp -implicitDefEqProofs -dsimp only [go_sem, ai.v] | simp -dsimp (disch := omega) only [wrap_i64])); repeat (with_reducible refine ah ?_)))
       (first | refine ak.at (hG) ⟨leA, trivial⟩ ?_ | refine aj.at (hG) ⟨leA, trivial⟩ ?_)
       (repeat ((repeat1' (first | simp -implicitDefEqProofs -dsimp only [go_sem] | simp -dsimp (disch := omega) only [wrap_i64])); repeat (with_reducible refine ah ?_)))
       (first | refine ak.at (hV) ⟨leA, trivial⟩ ?_ | refine aj.at (hV) ⟨leA, trivial⟩ ?_)
       (repeat ((repeat1' (first | simp -implicitDefEqProofs -dsimp only [go_sem, aw.v, hf'] | simp -dsimp (disch := omega) only [wrap_i64])); repeat (with_reducible refine ah ?_)))
       (first | refine ak.at (hR) ⟨leA, leA, trivial⟩ ?_ | refine aj.at (hR) ⟨leA, leA, trivial⟩ ?_)
       (repeat ((repeat1' (first | simp -implicitDefEqProofs -dsimp only [go_sem, ai.v] | simp -dsimp (disch := omega) only [wrap_i64])); repeat (with_reducible refine ah ?_)))
       (first | refine ak.at (hO2) ⟨leA, trivial⟩ ?_ | refine aj.at (hO2) ⟨leA, trivial⟩ ?_)
       (repeat ((repeat1' (first | simp -implicitDefEqProofs -dsimp only [go_sem, ai.o] | simp -dsimp (disch := omega) only [wrap_i64])); repeat (with_reducible refine ah ?_)))
       refine bd.split (fun hg => ?_) (fun hg => ?_)
       · have e : l6 (dm c.ab line).2 = aaz := by rw [hcap, if_pos (of_decide_eq_true hg)]
         rw [e] at iA hz ⊢
         (repeat ((repeat1' (first | simp -implicitDefEqProofs -dsimp only [go_sem, hg] | simp -dsimp (disch := omega) only [wrap_i64])); repeat (with_reducible refine ah ?_)))
         (first | refine ak.at (iA) ⟨leA, leA, trivial⟩ ?_ | refine aj.at (iA) ⟨leA, leA, trivial⟩ ?_)
         (repeat ((repeat1' (first | simp -implicitDefEqProofs -dsimp only [go_sem, Log.v] | simp -dsimp (disch := omega) only [wrap_i64])); repeat (with_reducible refine ah ?_)))
         refine al.pick [4, 5] (by decide) (fun j hj => by omega) (.inl rfl) ?_
         simp only [bc, List.map_cons, List.map_nil, bh, List.getElem?_cons_zero, List.getElem?_cons_succ, ae]
         rfl
       · have e : l6 (dm c.ab line).2 = (dm c.ab line).2 := by rw [hcap, if_neg (of_decide_eq_false hg)]
         rw [e] at iA hz ⊢
         (repeat ((repeat1' (first | simp -implicitDefEqProofs -dsimp only [go_sem, hg] | simp -dsimp (disch := omega) only [wrap_i64])); repeat (with_reducible refine ah ?_)))
         (first | refine ak.at (iA) ⟨leA, leA, trivial⟩ ?_ | refine aj.at (iA) ⟨leA, leA, trivial⟩ ?_)
         (repeat ((repeat1' (first | simp -implicitDefEqProofs -dsimp only [go_sem, Log.v] | simp -dsimp (disch := omega) only [wrap_i64])); repeat (with_reducible refine ah ?_)))
         refine al.pick [4, 5] (by decide) (fun j hj => by omega) (.inl rfl) ?_
         simp only [bc, List.map_cons, List.map_nil, bh, List.getElem?_cons_zero, List.getElem?_cons_succ, ae]
         rfl
end Go.Proofs
end
section
open Go.ChangeShapes Go.WideShapes
namespace Go.Lv

def ShC (P : Program) : Nat → TypeId → List V → Prop
 | 0, _, _ => False
 | n + 1, t, xs =>
   match P.underlying t with
   | some .bool => ∃ b, xs = [.bool b]
   | some (.int k) => ∃ z, xs = [.int k z] ∧ (Lit.int k z).wf = true
   | some .string => ∃ s : ByteArray, xs = [.str s] ∧ s.size ≤ maxLen
   | some (.slice e) => ∃ l cs, xs = [.sl l (P.cellsOf e) cs] ∧ l ≤ maxLen ∧ cs.length = l * P.cellsOf e ∧ ∀ i, i < l → ShC P n e ((cs.drop (i * P.cellsOf e)).take (P.cellsOf e))
   | some (.struct fs) => xs.length = P.cellsOf t ∧ ∀ f ∈ fs.toList, ShC P n f.type ((xs.drop f.offset).take (P.cellsOf f.type))
   | _ => False

def tiled (P : Program) : List Field → Nat → Nat → Bool
 | [], off, n => off == n
 | f :: fs, off, n => f.offset == off && tiled P fs (off + P.cellsOf f.type) n

def w7 (P : Program) : Nat → TypeId → Bool
 | 0, _ => false
 | n + 1, t =>
   match P.underlying t with
   | some .bool => true
   | some (.int _) => true
   | some .string => true
   | some (.slice e) => decide (0 < P.cellsOf e) && w7 P n e
   | some (.struct fs) => tiled P fs.toList 0 (P.cellsOf t) && fs.toList.all fun f => w7 P n f.type
   | _ => false

section
variable {P : Program} {w : World} {m : Nat → Nat}

def Rds (w : World) (m : Nat → Nat) (cs : List Value) (xs : List V) : Prop :=
 cs.length = xs.length ∧ ∀ i (hi : i < xs.length), RV w m [] (fun _ => False) false (cs.getD i Go.undef) xs[i]

theorem Rds.append {a b : List Value} {x y : List V} (h : Rds w m a x) (k : Rds w m b y) : Rds w m (a ++ b) (x ++ y) := by
 refine ⟨by simp [h.1, k.1], fun i hi => ?_⟩
 by_cases hlt : i < x.length
 · rw [List.getElem_append_left hlt]
   have := h.2 i hlt
   rw [List.getD_eq_getElem?_getD, List.getElem?_append_left (by rw [h.1]; exact hlt), ← List.getD_eq_getElem?_getD]
   exact this
 · rw [List.getElem_append_right (by omega)]
   have := k.2 (i - x.length) (by simp at hi; omega)
   rw [List.getD_eq_getElem?_getD, List.getElem?_append_right (by rw [h.1]; omega), ← List.getD_eq_getElem?_getD, h.1]
   exact this

theorem Rds.one {v : Value} {x : V} (h : RV w m [] (fun _ => False) false v x) : Rds w m [v] [x] :=
 ⟨rfl, fun i hi => by have : i = 0 := by simp at hi; omega
                      subst this; exact h⟩

theorem Rds.nil : Rds w m [] [] := ⟨rfl, fun i hi => by simp at hi⟩

theorem af8 {n : Nat} {cs : List Value} : ∀ (fs : List Field) (off : Nat), tiled P fs off cs.length = true → off ≤ cs.length →
   (∀ f ∈ fs, ∃ xs, Rds w m ((cs.drop f.offset).take (P.cellsOf f.type)) xs ∧ ShC P n f.type xs) →
   ∃ ys, Rds w m (cs.drop off) ys ∧ ∀ f ∈ fs, off ≤ f.offset ∧ ShC P n f.type ((ys.drop (f.offset - off)).take (P.cellsOf f.type))
 | [], off, ht, _, _ => by
   simp [tiled] at ht
   subst ht
   refine ⟨[], ?_, fun f hf => by simp at hf⟩
   rw [List.drop_of_length_le (Nat.le_refl _)]
   exact Rds.nil
 | f :: fs, off, ht, hle, h => by
   simp only [tiled, Bool.and_eq_true, beq_iff_eq] at ht
   obtain ⟨rfl, ht⟩ := ht
   have hlen : ∀ (fs : List Field) (o : Nat), tiled P fs o cs.length = true → o ≤ cs.length := by
     intro fs
     induction fs with
     | nil => intro o ht; simp [tiled] at ht; omega
     | cons g fs ih =>
       intro o ht
       simp only [tiled, Bool.and_eq_true, beq_iff_eq] at ht
       have := ih _ ht.2; omega
   have hk := hlen fs _ ht
   obtain ⟨x, hx1, hx2⟩ := h f (by simp)
   obtain ⟨ys, hy1, hy2⟩ := af8 fs _ ht hk (fun g hg => h g (by simp [hg]))
   have hxl : x.length = P.cellsOf f.type := by rw [← hx1.1]; simp; omega
   refine ⟨x ++ ys, ?_, fun g hg => ?_⟩
   · have : cs.drop f.offset = (cs.drop f.offset).take (P.cellsOf f.type) ++ cs.drop (f.offset + P.cellsOf f.type) := by
       rw [← List.drop_drop, List.take_append_drop]
     rw [this]
     exact hx1.append hy1
   · rcases List.mem_cons.1 hg with rfl | hg
     · refine ⟨Nat.le_refl _, ?_⟩
       rw [Nat.sub_self, List.drop_zero, List.take_append_of_le_length (by omega), List.take_of_length_le (by omega)]
       exact hx2
     · obtain ⟨h1, h2⟩ := hy2 g hg
       refine ⟨by omega, ?_⟩
       have : (x ++ ys).drop (g.offset - f.offset) = ys.drop (g.offset - (f.offset + P.cellsOf f.type)) := by
         rw [List.drop_append, List.drop_of_length_le (by omega), List.nil_append]
         congr 1
         omega
       rw [this]
       exact h2

theorem ai7 {n e : Nat} {b off len : Nat} (h : ∀ i, i < len → ∃ cs xs, cs.length = P.cellsOf e ∧ (∀ j, j < P.cellsOf e → w.cell? ⟨b, off + (i * P.cellsOf e + j), none⟩ = cs[j]?) ∧ Rds w m cs xs ∧ ShC P n e xs) :
   ∀ k, k ≤ len → ∃ xs : List V, xs.length = k * P.cellsOf e ∧ (∀ j (hj : j < xs.length), ∃ v, w.cell? ⟨b, off + j, none⟩ = some v ∧ RV w m [] (fun _ => False) false v xs[j]) ∧
     ∀ i, i < k → ShC P n e ((xs.drop (i * P.cellsOf e)).take (P.cellsOf e))
 | 0, _ => ⟨[], by simp, fun j hj => by simp at hj, fun i hi => by omega⟩
 | k + 1, hk => by
   obtain ⟨xs, h1, h2, h3⟩ := ai7 h k (by omega)
   obtain ⟨cs, ys, g1, g2, g3, g4⟩ := h k (by omega)
   have hyl : ys.length = P.cellsOf e := by rw [← g3.1, g1]
   refine ⟨xs ++ ys, by simp [h1, hyl, Nat.add_mul], fun j hj => ?_, fun i hi => ?_⟩
   · by_cases hlt : j < xs.length
     · rw [List.getElem_append_left hlt]
       exact h2 j hlt
     · rw [List.getElem_append_right (by omega)]
       have hj' : j - xs.length < ys.length := by simp at hj; omega
       have hr := g3.2 _ hj'
       have hc := g2 (j - xs.length) (by omega)
       have e1 : off + (k * P.cellsOf e + (j - xs.length)) = off + j := by omega
       rw [e1] at hc
       have hcl : j - xs.length < cs.length := by omega
       rw [List.getElem?_eq_getElem hcl] at hc
       refine ⟨_, hc, ?_⟩
       simpa [List.getD_eq_getElem?_getD, hcl] using hr
   · by_cases e2 : i = k
     · subst e2
       rw [← h1, List.drop_left, List.take_of_length_le (by omega)]
       exact g4
     · have hm : i * P.cellsOf e + P.cellsOf e ≤ xs.length := ac8 (n := k) (by omega) h1
       rw [List.drop_append_of_le_length (by omega), List.take_append_of_le_length (by simp; omega)]
       exact h3 i (by omega)

theorem ab5 {H : Type} {enc : TypeId × Value → H} {spare : Nat → Bool} {held : Bool} : ∀ (n : Nat) (fuel : Nat) (t : TypeId) (cs : List Value) (x : DataW H × List MemPlace),
   DataW.trod enc P w 0 spare held fuel t cs = some x → w7 P n t = true → ∃ xs, Rds w m cs xs ∧ ShC P n t xs
 | 0, fuel, t, cs, x, _, hp => by simp [w7] at hp
 | n + 1, fuel, t, cs, x, hx, hp => by
   unfold w7 at hp
   split at hp
   · rename_i hu
     obtain ⟨b, rfl, _⟩ := DataW.trod_bool hu hx
     exact ⟨[.bool b], Rds.one (.bool b), by unfold ShC; rw [hu]; exact ⟨b, rfl⟩⟩
   · rename_i k hu
     obtain ⟨z, rfl, _, hw⟩ := DataW.trod_int hu hx
     exact ⟨[.int k z], Rds.one (.int k z), by unfold ShC; rw [hu]; exact ⟨z, rfl, hw⟩⟩
   · rename_i hu
     obtain ⟨s, rfl, _, hs⟩ := DataW.trod_string hu hx
     exact ⟨[.str s], Rds.one (.str s), by unfold ShC; rw [hu]; exact ⟨s, rfl, hs⟩⟩
   · rename_i e hu
     simp only [Bool.and_eq_true, decide_eq_true_eq] at hp
     obtain ⟨hpos, hp⟩ := hp
     rcases Deep.open_slice hu hx with ⟨rfl, _⟩ | ⟨a, len, cap, mm, f, D, Pl, rfl, _, hle, hcap, hmm, _, hel⟩
     · refine ⟨[.sl 0 (P.cellsOf e) []], Rds.one (.slz _ _ _), ?_⟩
       unfold ShC; rw [hu]
       exact ⟨0, [], rfl, Nat.zero_le _, by simp, fun i hi => by omega⟩
     · by_cases h0 : len = 0
       · subst h0
         refine ⟨[.sl 0 (P.cellsOf e) []], Rds.one (.slz _ _ _), ?_⟩
         unfold ShC; rw [hu]
         exact ⟨0, [], rfl, Nat.zero_le _, by simp, fun i hi => by omega⟩
       · have hml : len ≤ mm := by rw [hmm]; split <;> omega
         obtain ⟨b, off, spot⟩ := a
         have hspot : spot = none := by
           obtain ⟨cs', hc, _⟩ := hel 0 (by omega)
           obtain ⟨_, hcl, hat⟩ := World.cells?_some hc
           have h1 := hat 0 hpos
           rw [List.getElem?_eq_getElem (by omega)] at h1
           simpa [Addr.add] using World.cell?_spot h1
         subst hspot
         have hall : ∀ i, i < len → ∃ cs xs, cs.length = P.cellsOf e ∧ (∀ j, j < P.cellsOf e → w.cell? ⟨b, off + (i * P.cellsOf e + j), none⟩ = cs[j]?) ∧ Rds w m cs xs ∧ ShC P n e xs := by
           intro i hi
           obtain ⟨cs', hc, ht⟩ := hel i (by omega)
           obtain ⟨_, hcl, hat⟩ := World.cells?_some hc
           obtain ⟨xs, h1, h2⟩ := ab5 n _ e cs' _ ht hp
           refine ⟨cs', xs, hcl, fun j hj => ?_, h1, h2⟩
           have := hat j hj
           rw [Addr.add_lit, Addr.add_lit] at this
           rw [← this, Nat.add_assoc]
         obtain ⟨xs, h1, h2, h3⟩ := ai7 hall len (Nat.le_refl _)
         refine ⟨[.sl len (P.cellsOf e) xs], Rds.one (.sl b off len cap (P.cellsOf e) xs (fun j => (w.cell? ⟨b, off + j, none⟩).getD Go.undef) h1 (fun _ h => h) hle (fun j hj => ?_) (fun j hj => ?_)), ?_⟩
         · obtain ⟨v, hv, _⟩ := h2 j hj
           simp [hv]
         · obtain ⟨v, hv, hr⟩ := h2 j hj
           simpa [hv] using hr
         · unfold ShC; rw [hu]
           exact ⟨len, xs, rfl, by omega, h1, h3⟩
   · rename_i fs hu
     simp only [Bool.and_eq_true, List.all_eq_true] at hp
     obtain ⟨xs, f, _, _, hl, hxl, hf⟩ := DataW.trod_struct hu hx
     have hfs : ∀ g ∈ fs.toList, ∃ ys, Rds w m ((cs.drop g.offset).take (P.cellsOf g.type)) ys ∧ ShC P n g.type ys := by
       intro g hg
       obtain ⟨i, hi, rfl⟩ := List.getElem_of_mem hg
       have hi' : i < fs.size := by simpa using hi
       have h1 := hf i fs[i] (Array.getElem?_eq_getElem hi')
       rw [List.getElem?_eq_getElem (by omega)] at h1
       exact ab5 n _ _ _ _ (by simpa using h1) (hp.2 _ hg)
     obtain ⟨ys, h1, h2⟩ := af8 fs.toList 0 (by rw [hl]; exact hp.1) (Nat.zero_le _) hfs
     rw [List.drop_zero] at h1
     refine ⟨ys, h1, ?_⟩
     unfold ShC; rw [hu]
     exact ⟨by rw [← h1.1, hl], fun g hg => by simpa using (h2 g hg).2⟩
   · cases hp

end
section
variable {P : Program} {W : World}

theorem Rds.get {m : Nat → Nat} {a : List Value} {x : List V} (h : Rds W m a x) : a.length = x.length := h.1

theorem agz {H : Type} {enc : TypeId × Value → H} {spare : Nat → Bool} {held : Bool} {r : Reach} {b0 n : Nat} {t : TypeId} {fs : Array Field} {v : Value} {d : DataW H} {p : List MemPlace} (m : Nat → Nat)
   (hs : P.underlying t = some (.struct fs)) (hv : Value.okWide P W r b0 t v) (h : DataW.Trod enc P W 0 spare held t v d p) (hp : w7 P n t = true) :
   ∃ xs, RV W m [] (fun _ => False) true v (.agg xs) ∧ ShC P n t xs := by
 obtain ⟨cs, rfl, hsz⟩ := okWide_struct hs hv
 obtain ⟨fuel, hf⟩ := h
 obtain ⟨xs, h1, h2⟩ := ab5 (m := m) n fuel t _ _ hf hp
 refine ⟨xs, .agg cs xs (by simpa [Value.cells] using h1.1) (fun i hi => ?_), h2⟩
 have := h1.2 i hi
 simp only [Value.cells, List.getD_eq_getElem?_getD, Array.getElem?_toList] at this
 rw [Array.getD_eq_getD_getElem?]
 exact this.rn

theorem ag4 {H : Type} {enc : TypeId × Value → H} {spare : Nat → Bool} {held : Bool} {n : Nat} {t : TypeId} {v : Value} {d : DataW H} {p : List MemPlace} (m : Nat → Nat)
   (hv : v.cells = #[v]) (h : DataW.Trod enc P W 0 spare held t v d p) (hp : w7 P n t = true) : ∃ x, RV W m [] (fun _ => False) true v x ∧ ShC P n t [x] := by
 obtain ⟨fuel, hf⟩ := h
 rw [hv] at hf
 obtain ⟨xs, h1, h2⟩ := ab5 (m := m) n fuel t _ _ hf hp
 match xs, h1 with
 | [x], h1 => exact ⟨x, by have := h1.2 0 (by simp); exact this.rn, h2⟩
 | [], h1 => simp [Rds] at h1
 | _ :: _ :: _, h1 => simp [Rds] at h1

theorem law_walk {f : FuncId} {xs : List V} {vs : Array Value} (m : Nat → Nat) (hc : Ctr P f xs [] (.bool true) []) (hgl : GL W (fun _ => False)) (hsz : vs.size = xs.length)
   (hr : ∀ i (hi : i < xs.length), RV W m [] (fun _ => False) true (vs.getD i Go.undef) xs[i]) :
   Calls P f vs W fun e w' => e = .returned (.bool true) ∧ RowKit.Below W.heap.size W w' := by
 refine (hc.2 W vs m (fun _ => False) ⟨fun i j ci cj h => by simp at h, fun id cs h => by simp at h, fun id cs h => by simp at h⟩ (fun b h => h.elim) hgl hsz hr).mono ?_
 rintro e w' ⟨v, m', rfl, hE, _, hv, _⟩
 refine ⟨by cases hv; rfl, hE.os, hE.tape, hE.output, hE.size, fun k hk => hE.block k hk (fun ⟨id, cs, h, _⟩ => by simp at h)⟩

end
end Go.Lv
end
section
namespace Go.Lv

theorem gn {P : Program} {t : TypeId} {n : Nat} {xs : List V} {fs : Array Field} (hs : P.underlying t = some (.struct fs)) (h : ShC P (n + 1) t xs) : xs.length = P.cellsOf t ∧ ∀ f ∈ fs.toList, ShC P n f.type ((xs.drop f.offset).take (P.cellsOf f.type)) := by
 simp only [ShC, hs] at h
 exact h

theorem ed {P : Program} {t : TypeId} {n : Nat} {xs : List V} (hs : P.underlying t = some (.int .i64)) (h : ShC P (n + 1) t xs) : ∃ z, xs = [.int .i64 z] ∧ iq z := by
 simp only [ShC, hs] at h
 obtain ⟨z, h1, h2⟩ := h
 refine ⟨z, h1, ?_⟩
 simp [Lit.wf, IntKind.min, IntKind.max, IntKind.signed, IntKind.bits] at h2
 exact h2

theorem aj4 {P : Program} {t : TypeId} {n : Nat} {xs : List V} (hs : P.underlying t = some .bool) (h : ShC P (n + 1) t xs) : ∃ b, xs = [.bool b] := by
 simp only [ShC, hs] at h
 exact h

theorem qo {P : Program} {t : TypeId} {n : Nat} {xs : List V} (hs : P.underlying t = some .string) (h : ShC P (n + 1) t xs) : ∃ s, xs = [.str s] ∧ agl s := by
 simp only [ShC, hs] at h
 obtain ⟨s, h1, h2⟩ := h
 exact ⟨s, h1, h2⟩

theorem uw {P : Program} {t e : TypeId} {n : Nat} {xs : List V} (hs : P.underlying t = some (.slice e)) {α : Type} {cs : α → List V} {w : Nat} (hw : P.cellsOf e = w) {ok : α → Prop}
   (he : ∀ ys, ShC P n e ys → ∃ a, ys = cs a ∧ ok a) (h : ShC P (n + 1) t xs) : ∃ L : List α, xs = [.sl L.length w (rows cs L)] ∧ agn ok L := by
 simp only [ShC, hs, hw] at h
 obtain ⟨l, ys, rfl, hl, hlen, hel⟩ := h
 suffices ∀ (l : Nat) (ys : List V), ys.length = l * w → (∀ i, i < l → ShC P n e ((ys.drop (i * w)).take w)) → ∃ L : List α, L.length = l ∧ rows cs L = ys ∧ ∀ x ∈ L, ok x by
   obtain ⟨L, h1, h2, h3⟩ := this l ys hlen hel
   exact ⟨L, by rw [h1, h2], by rw [h1]; exact hl, h3⟩
 intro l
 induction l with
 | zero => intro ys h1 _; exact ⟨[], rfl, by simp at h1; simp [rows, h1], fun x hx => by simp at hx⟩
 | succ l ih =>
   intro ys h1 h2
   obtain ⟨a, ha, hoa⟩ := he _ (h2 0 (by omega))
   rw [Nat.zero_mul, List.drop_zero] at ha
   obtain ⟨L, h3, h4, h5⟩ := ih (ys.drop w) (by rw [List.length_drop, h1, Nat.succ_mul]; omega) (fun i hi => by
     have := h2 (i + 1) (by omega)
     rw [List.drop_drop]
     rwa [Nat.succ_mul, Nat.add_comm] at this)
   refine ⟨a :: L, by simp [h3], ?_, ?_⟩
   · rw [dq, h4, ← ha, List.take_append_drop]
   · intro x hx
     rcases List.mem_cons.1 hx with rfl | hx
     · exact hoa
     · exact h5 x hx

end Go.Lv
end
