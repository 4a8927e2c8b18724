/-
  A part of the proof: texts put together by a program of the prover. Conditions: none.
-/
import Derived.Test.YtfpkiomipjmabaaGreatDoorZC9
import Derived.Test.YtfpkiomipjmabaaGreatDoorZC14
import Derived.Test.YtfpkiomipjmabaaGreatDoorZC15
set_option linter.unusedSimpArgs false
set_option linter.unusedVariables false
section
set_option maxRecDepth 100000
set_option maxHeartbeats 1000000
namespace Go.Proofs
open Go.Lv
theorem bf {x y : V} (h : LeV x y := by first | exact leA | exact ab.le rfl rfl) : LeV x y := h
def dz (w : ab) (k n v : Int) : Bool := n4 w k n v && wB (ep w k n v)
theorem ajc (w : ab) (n v : Int) (hw : wB w = true) (hv : 1 ≤ v) (hv2 : v ≤ 9223372036854775807) : Ctr Tryz.prog 235 [w.v, .agg [.int .i64 1, .int .i64 n, .int .i64 v]] [] (.tup [(ey w 1 n v).o 0 1, .bool (dz w 1 n v)]) [some (rows az.cs w.Posts), some (rows an.cs w.Shocks)] := by
 have W := dt hw
 have pl := W.plen
 have sl := W.slen
 have wn := W.now
 have hw1 : IntKind.i64.wrap (1000000 - w.Now) = 1000000 - w.Now := wrap_i64 (by omega) (by omega)
 refine Ctr.intro Tryz.mixed Tryz.func235 rfl Tryz.vq ?_
 simp -implicitDefEqProofs -dsimp only [go_sem, Tryz.ntmps235, Tryz.results235]
 simp -implicitDefEqProofs -dsimp only [go_sem, ab.v]
 (have ct := ix w (by omega) (by omega); (first | refine ak.at ct ⟨bf, trivial⟩ ?_ | refine aj.at ct ⟨bf, trivial⟩ ?_); clear ct)
 (repeat ((repeat1' (first | simp -implicitDefEqProofs -dsimp only [go_sem, ab.o, hw1] | simp -dsimp (disch := omega) only [wrap_i64])); repeat (with_reducible refine ah ?_)))
 refine bd.split (fun h1 => ?_) (fun h1 => ?_)
 · (repeat ((repeat1' (first | simp -implicitDefEqProofs -dsimp only [go_sem, h1] | simp -dsimp (disch := omega) only [wrap_i64])); repeat (with_reducible refine ah ?_)))
   have hm : ¬ v ≤ 1000000 - w.Now := by simp at h1; omega
   have e1 : ey w 1 n v = w := by simp [ey, hm]
   have e2 : dz w 1 n v = false := by simp [dz, n4, hm]
   rw [e1, e2]
   refine al.pick [3, 4] (by decide) (fun j hj => by omega) (.inl ?_) ?_
   · first | rfl | (simp [ren, bg, posOf, ab.o]; done)
   · simp only [bc, List.map_cons, List.map_nil, bh, List.getElem?_cons_zero, List.getElem?_cons_succ, ae]
 · have hm : v ≤ 1000000 - w.Now := by simp at h1; omega
   have hw2 : IntKind.i64.wrap (w.Now + v) = w.Now + v := wrap_i64 (by omega) (by omega)
   have e1 : ey w 1 n v = ep w 1 n v := by simp [ey, hm]
   have e3 : ep w 1 n v = ⟨w.Now + v, w.Posts, w.Shocks, w.Next, w.Archived⟩ := by simp [ep]
   have e2 : dz w 1 n v = wB ⟨w.Now + v, w.Posts, w.Shocks, w.Next, w.Archived⟩ := by simp [dz, n4, hm, e3]
   rw [e1, e2, e3]
   (repeat ((repeat1' (first | simp -implicitDefEqProofs -dsimp only [go_sem, h1, hw2] | simp -dsimp (disch := omega) only [wrap_i64])); repeat (with_reducible refine ah ?_)))
   (have ct := dv ⟨w.Now + v, w.Posts, w.Shocks, w.Next, w.Archived⟩ (by simp; omega) (by simp; omega); (first | refine ak.at ct ⟨bf, trivial⟩ ?_ | refine aj.at ct ⟨bf, trivial⟩ ?_); clear ct)
   (repeat ((repeat1' (first | simp -implicitDefEqProofs -dsimp only [go_sem] | simp -dsimp (disch := omega) only [wrap_i64])); repeat (with_reducible refine ah ?_)))
   refine al.pick [3, 4] (by decide) (fun j hj => by omega) (.inl ?_) ?_
   · first | rfl | (simp [ren, bg, posOf, ab.o]; done)
   · simp only [bc, List.map_cons, List.map_nil, bh, List.getElem?_cons_zero, List.getElem?_cons_succ, ae]
theorem aic (w : ab) (k n v : Int) (hk : k = 2 ∨ k = 3) (hw : wB w = true) (hs : df w k n v = true) : Ctr Tryz.prog 235 [w.v, .agg [.int .i64 k, .int .i64 n, .int .i64 v]] [] (.tup [(ey w k n v).o 0 1, .bool (dz w k n v)]) [some (rows az.cs (ey w k n v).Posts), some (rows an.cs w.Shocks)] := by
 have W := dt hw
 have pl := W.plen
 have sl := W.slen
 obtain ⟨i, hi, hix, hin⟩ : ∃ i, ∃ h : i < w.Posts.length, jd (j7 n) w.Posts = (i : Int) ∧ j7 n w.Posts[i] = true := by
   have : decide (0 ≤ jd (j7 n) w.Posts) = true := by
     rcases hk with rfl | rfl <;> simp [df] at hs <;> simp [hs.1]
   exact sj this
 have hp : pAt w n = i := by simp [pAt, hix]
 have e1 : ey w k n v = ⟨w.Now, w.Posts.set i ⟨n, decide (k = 3), w.Now⟩, w.Shocks, w.Next, w.Archived⟩ := by
   rcases hk with rfl | rfl <;> simp [ey, ep, hp]
 have e2 : dz w k n v = (w.Posts[i].Up != decide (k = 3) && wB ⟨w.Now, w.Posts.set i ⟨n, decide (k = 3), w.Now⟩, w.Shocks, w.Next, w.Archived⟩) := by
   rcases hk with rfl | rfl <;> simp [dz, n4, ep, hp, ajq hi]
 have hr := bt az.csl hi
 have hsp : ∀ b, ck (rows az.cs w.Posts) (i * 3) [.int .i64 n, .bool b, .int .i64 w.Now] = rows az.cs (w.Posts.set i ⟨n, b, w.Now⟩) := fun b => mi (cs := az.cs) az.csl hi ⟨n, b, w.Now⟩
 have hgood := dv ⟨w.Now, w.Posts.set i ⟨n, decide (k = 3), w.Now⟩, w.Shocks, w.Next, w.Archived⟩ (by simp; omega) (by simp; omega)
 rw [e1, e2]
 have hlen : ∀ p, (w.Posts.set i p).length = w.Posts.length := fun p => by simp
 rcases hk with rfl | rfl
 · have hd : decide ((2 : Int) = 3) = false := rfl
   rw [hd] at hgood ⊢
   simp only [ab.v, hlen] at hgood
   simp only [ab.o, hlen]
   refine Ctr.intro Tryz.mixed Tryz.func235 rfl Tryz.vq ?_
   simp -implicitDefEqProofs -dsimp only [go_sem, Tryz.ntmps235, Tryz.results235]
   simp -implicitDefEqProofs -dsimp only [go_sem, ab.v]
   (have ct := ix w (by omega) (by omega); (first | refine ak.at ct ⟨bf, trivial⟩ ?_ | refine aj.at ct ⟨bf, trivial⟩ ?_); clear ct)
   (repeat ((repeat1' (first | simp -implicitDefEqProofs -dsimp only [go_sem, ab.o] | simp -dsimp (disch := omega) only [wrap_i64])); repeat (with_reducible refine ah ?_)))
   (have ct := mu w n (by omega); (first | refine ak.at ct ⟨bf, bf, trivial⟩ ?_ | refine aj.at ct ⟨bf, bf, trivial⟩ ?_); clear ct)
   rw [hix]
   (repeat ((repeat1' (first | simp -implicitDefEqProofs -dsimp only [go_sem, hr, az.cs] | simp -dsimp (disch := omega) only [wrap_i64])); repeat (with_reducible refine ah ?_)))
   refine a8.bu (fun g => ?_) (fun g => ?_) <;> (repeat ((repeat1' (first | simp -implicitDefEqProofs -dsimp only [go_sem, g, hsp, Int.toNat_natCast] | simp -dsimp (disch := omega) only [wrap_i64])); repeat (with_reducible refine ah ?_)))
   · skip
     (first | refine ak.at (hgood) ⟨bf, trivial⟩ ?_ | refine aj.at (hgood) ⟨bf, trivial⟩ ?_)
     (repeat ((repeat1' (first | simp -implicitDefEqProofs -dsimp only [go_sem, g] | simp -dsimp (disch := omega) only [wrap_i64])); repeat (with_reducible refine ah ?_)))
     simp at g
     refine al.pick [3, 4] (by decide) (fun j hj => by omega) (.inl ?_) ?_
     · first | rfl | (simp [ren, bg, posOf, ab.o, g]; done)
     · simp only [bc, List.map_cons, List.map_nil, bh, List.getElem?_cons_zero, List.getElem?_cons_succ, ae]
   · skip
     simp at g
     refine al.pick [3, 4] (by decide) (fun j hj => by omega) (.inl ?_) ?_
     · first | rfl | (simp [ren, bg, posOf, ab.o, g]; done)
     · simp only [bc, List.map_cons, List.map_nil, bh, List.getElem?_cons_zero, List.getElem?_cons_succ, ae]
 · have hd : decide ((3 : Int) = 3) = true := rfl
   rw [hd] at hgood ⊢
   simp only [ab.v, hlen] at hgood
   simp only [ab.o, hlen]
   refine Ctr.intro Tryz.mixed Tryz.func235 rfl Tryz.vq ?_
   simp -implicitDefEqProofs -dsimp only [go_sem, Tryz.ntmps235, Tryz.results235]
   simp -implicitDefEqProofs -dsimp only [go_sem, ab.v]
   (have ct := ix w (by omega) (by omega); (first | refine ak.at ct ⟨bf, trivial⟩ ?_ | refine aj.at ct ⟨bf, trivial⟩ ?_); clear ct)
   (repeat ((repeat1' (first | simp -implicitDefEqProofs -dsimp only [go_sem, ab.o] | simp -dsimp (disch := omega) only [wrap_i64])); repeat (with_reducible refine ah ?_)))
   (have ct := mu w n (by omega); (first | refine ak.at ct ⟨bf, bf, trivial⟩ ?_ | refine aj.at ct ⟨bf, bf, trivial⟩ ?_); clear ct)
   rw [hix]
   (repeat ((repeat1' (first | simp -implicitDefEqProofs -dsimp only [go_sem, hr, az.cs] | simp -dsimp (disch := omega) only [wrap_i64])); repeat (with_reducible refine ah ?_)))
   refine a8.bu (fun g => ?_) (fun g => ?_) <;> (repeat ((repeat1' (first | simp -implicitDefEqProofs -dsimp only [go_sem, g, hsp, Int.toNat_natCast] | simp -dsimp (disch := omega) only [wrap_i64])); repeat (with_reducible refine ah ?_)))
   · skip
     (first | refine ak.at (hgood) ⟨bf, trivial⟩ ?_ | refine aj.at (hgood) ⟨bf, trivial⟩ ?_)
     (repeat ((repeat1' (first | simp -implicitDefEqProofs -dsimp only [go_sem, g] | simp -dsimp (disch := omega) only [wrap_i64])); repeat (with_reducible refine ah ?_)))
     simp at g
     refine al.pick [3, 4] (by decide) (fun j hj => by omega) (.inl ?_) ?_
     · first | rfl | (simp [ren, bg, posOf, ab.o, g]; done)
     · simp only [bc, List.map_cons, List.map_nil, bh, List.getElem?_cons_zero, List.getElem?_cons_succ, ae]
   · skip
     simp at g
     refine al.pick [3, 4] (by decide) (fun j hj => by omega) (.inl ?_) ?_
     · first | rfl | (simp [ren, bg, posOf, ab.o, g]; done)
     · simp only [bc, List.map_cons, List.map_nil, bh, List.getElem?_cons_zero, List.getElem?_cons_succ, ae]
theorem aie (w : ab) (n v : Int) (hw : wB w = true) : Ctr Tryz.prog 235 [w.v, .agg [.int .i64 4, .int .i64 n, .int .i64 v]] [] (.tup [(ey w 4 n v).o 0 1, .bool (dz w 4 n v)]) [some (rows az.cs w.Posts), some (rows an.cs (ey w 4 n v).Shocks)] := by
 have W := dt hw
 have pl := W.plen
 have sl := W.slen
 have wn := W.next
 have hwn : IntKind.i64.wrap (w.Next + 1) = w.Next + 1 := wrap_i64 (by omega) (by omega)
 obtain ⟨x, hx⟩ : ∃ x : an, x = ⟨w.Next, 0, (upN w w.Posts.length : Int), 0, w.Now⟩ := ⟨_, rfl⟩
 have e1 : ey w 4 n v = ⟨w.Now, w.Posts, w.Shocks ++ [x], w.Next + 1, w.Archived⟩ := by simp [ey, ep, hx]
 have e2 : dz w 4 n v = wB ⟨w.Now, w.Posts, w.Shocks ++ [x], w.Next + 1, w.Archived⟩ := by simp [dz, n4, ep, hx]
 have hsn : rows an.cs w.Shocks ++ [.int .i64 w.Next, .int .i64 0, .int .i64 (upN w w.Posts.length : Int), .int .i64 0, .int .i64 w.Now] = rows an.cs (w.Shocks ++ [x]) := by
   rw [hx]
   exact dk (cs := an.cs) w.Shocks ⟨w.Next, 0, (upN w w.Posts.length : Int), 0, w.Now⟩
 have hln : w.Shocks.length + 1 = (w.Shocks ++ [x]).length := by simp
 have hgood := dv ⟨w.Now, w.Posts, w.Shocks ++ [x], w.Next + 1, w.Archived⟩ (by simp; omega) (by simp; omega)
 rw [e1, e2]
 refine Ctr.intro Tryz.mixed Tryz.func235 rfl Tryz.vq ?_
 simp -implicitDefEqProofs -dsimp only [go_sem, Tryz.ntmps235, Tryz.results235]
 simp -implicitDefEqProofs -dsimp only [go_sem, ab.v]
 (have ct := ix w (by omega) (by omega); (first | refine ak.at ct ⟨bf, trivial⟩ ?_ | refine aj.at ct ⟨bf, trivial⟩ ?_); clear ct)
 (repeat ((repeat1' (first | simp -implicitDefEqProofs -dsimp only [go_sem, ab.o] | simp -dsimp (disch := omega) only [wrap_i64])); repeat (with_reducible refine ah ?_)))
 (have ct := ap2 w (by omega); (first | refine ak.at ct ⟨bf, trivial⟩ ?_ | refine aj.at ct ⟨bf, trivial⟩ ?_); clear ct)
 (repeat ((repeat1' (first | simp -implicitDefEqProofs -dsimp only [go_sem, hwn, hsn, hln] | simp -dsimp (disch := omega) only [wrap_i64])); repeat (with_reducible refine ah ?_)))
 (first | refine ak.at (hgood) ⟨bf, trivial⟩ ?_ | refine aj.at (hgood) ⟨bf, trivial⟩ ?_)
 (repeat ((repeat1' (first | simp -implicitDefEqProofs -dsimp only [go_sem, hsn] | simp -dsimp (disch := omega) only [wrap_i64])); repeat (with_reducible refine ah ?_)))
 refine al.pick [3, 4] (by decide) (fun j hj => by omega) (.inl ?_) ?_
 · first | rfl | (simp [ren, bg, posOf, ab.o]; done)
 · simp only [bc, List.map_cons, List.map_nil, bh, List.getElem?_cons_zero, List.getElem?_cons_succ, ae]
theorem ajf (w : ab) (n v : Int) (hw : wB w = true) (hs : df w 8 n v = true) : Ctr Tryz.prog 235 [w.v, .agg [.int .i64 8, .int .i64 n, .int .i64 v]] [] (.tup [(ey w 8 n v).o 0 1, .bool (dz w 8 n v)]) [some (rows az.cs w.Posts), some (rows an.cs (ey w 8 n v).Shocks)] := by
 have W := dt hw
 have pl := W.plen
 have sl := W.slen
 obtain ⟨i, hi, hix, hin⟩ : ∃ i, ∃ h : i < w.Shocks.length, jd (di n) w.Shocks = (i : Int) ∧ di n w.Shocks[i] = true := by
   have : decide (0 ≤ jd (di n) w.Shocks) = true := by
     simp [df] at hs
     simp [hs.1]
   exact sj this
 have hp : sAt w n = i := by simp [sAt, hix]
 have e1 : ey w 8 n v = iz w i := by simp [ey, ep, iz, hp]
 have e2 : dz w 8 n v = (ab8 w (aks w i) && wB (iz w i)) := by simp [dz, n4, ep, iz, hp]
 have hgood := dv (iz w i) (by simp [iz]; omega) (by simp [iz]; omega)
 have harch := ae5 w i hw hi
 have e3 : (iz w i).Shocks = w.Shocks.take i ++ w.Shocks.drop (i + 1) := rfl
 rw [e1, e2, e3]
 refine Ctr.intro Tryz.mixed Tryz.func235 rfl Tryz.vq ?_
 simp -implicitDefEqProofs -dsimp only [go_sem, Tryz.ntmps235, Tryz.results235]
 simp -implicitDefEqProofs -dsimp only [go_sem, ab.v]
 (have ct := ix w (by omega) (by omega); (first | refine ak.at ct ⟨bf, trivial⟩ ?_ | refine aj.at ct ⟨bf, trivial⟩ ?_); clear ct)
 (repeat ((repeat1' (first | simp -implicitDefEqProofs -dsimp only [go_sem, ab.o] | simp -dsimp (disch := omega) only [wrap_i64])); repeat (with_reducible refine ah ?_)))
 (have ct := jx w n (by omega); (first | refine ak.at ct ⟨bf, bf, trivial⟩ ?_ | refine aj.at ct ⟨bf, bf, trivial⟩ ?_); clear ct)
 rw [hix]
 (repeat ((repeat1' (first | simp -implicitDefEqProofs -dsimp only [go_sem] | simp -dsimp (disch := omega) only [wrap_i64])); repeat (with_reducible refine ah ?_)))
 (first | refine ak.at (harch) ⟨bf, bf, trivial⟩ ?_ | refine aj.at (harch) ⟨bf, bf, trivial⟩ ?_)
 (repeat ((repeat1' (first | simp -implicitDefEqProofs -dsimp only [go_sem, ab.o] | simp -dsimp (disch := omega) only [wrap_i64])); repeat (with_reducible refine ah ?_)))
 refine a8.bu (fun g => ?_) (fun g => ?_) <;> (repeat ((repeat1' (first | simp -implicitDefEqProofs -dsimp only [go_sem, g] | simp -dsimp (disch := omega) only [wrap_i64])); repeat (with_reducible refine ah ?_)))
 · skip
   (first | refine ak.at (hgood) ⟨bf, trivial⟩ ?_ | refine aj.at (hgood) ⟨bf, trivial⟩ ?_)
   (repeat ((repeat1' (first | simp -implicitDefEqProofs -dsimp only [go_sem, g] | simp -dsimp (disch := omega) only [wrap_i64])); repeat (with_reducible refine ah ?_)))
   refine al.pick [6, 7] (by decide) (fun j hj => by omega) (.inl ?_) ?_
   · first | rfl | (simp [ren, bg, posOf, ab.o, g, iz]; done)
   · simp only [bc, List.map_cons, List.map_nil, bh, List.getElem?_cons_zero, List.getElem?_cons_succ, ae]
 · skip
   refine al.pick [6, 7] (by decide) (fun j hj => by omega) (.inl ?_) ?_
   · first | rfl | (simp [ren, bg, posOf, ab.o, g, iz]; done)
   · simp only [bc, List.map_cons, List.map_nil, bh, List.getElem?_cons_zero, List.getElem?_cons_succ, ae]
theorem aiu (w : ab) (k n v : Int) (hk : k = 5 ∨ k = 6 ∨ k = 7) (hw : wB w = true) (hs : df w k n v = true) (hv : -100 ≤ v ∧ v ≤ 100) : Ctr Tryz.prog 235 [w.v, .agg [.int .i64 k, .int .i64 n, .int .i64 v]] [] (.tup [(ey w k n v).o 0 1, .bool (dz w k n v)]) [some (rows az.cs w.Posts), some (rows an.cs (ey w k n v).Shocks)] := by
 have W := dt hw
 have pl := W.plen
 have sl := W.slen
 obtain ⟨i, hi, hix, hin⟩ : ∃ i, ∃ h : i < w.Shocks.length, jd (di n) w.Shocks = (i : Int) ∧ di n w.Shocks[i] = true := by
   have : decide (0 ≤ jd (di n) w.Shocks) = true := by
     rcases hk with rfl | rfl | rfl <;> simp [df] at hs <;> simp [hs]
   exact sj this
 have hp : sAt w n = i := by simp [sAt, hix]
 have hsh := yq hi
 have e1 : ey w k n v = ⟨w.Now, w.Posts, w.Shocks.set i (vj w.Shocks[i] k v), w.Next, w.Archived⟩ := by
   rcases hk with rfl | rfl | rfl <;> simp [ey, ep, hp, hsh]
 have e2 : dz w k n v = (aai w.Shocks[i] k && wB ⟨w.Now, w.Posts, w.Shocks.set i (vj w.Shocks[i] k v), w.Next, w.Archived⟩) := by
   rcases hk with rfl | rfl | rfl <;> simp [dz, n4, ep, hp, hsh]
 have hr := bt an.csl hi
 have hchg := agm w.Next w.Now w.Shocks[i] k n v (W.shocks _ (List.getElem_mem hi)) hk hv
 have hlen : ∀ p, (w.Shocks.set i p).length = w.Shocks.length := fun p => by simp
 have hgood := dv ⟨w.Now, w.Posts, w.Shocks.set i (vj w.Shocks[i] k v), w.Next, w.Archived⟩ (by simp; omega) (by simp; omega)
 generalize vj w.Shocks[i] k v = y at e1 e2 hchg hgood
 have hsp : ck (rows an.cs w.Shocks) (i * 5) [.int .i64 y.Number, .int .i64 y.State, .int .i64 y.Seen, .int .i64 y.Size, .int .i64 y.Tick] = rows an.cs (w.Shocks.set i y) := mi (cs := an.cs) an.csl hi y
 rw [e1, e2]
 clear e1 e2
 simp only [ab.v, hlen] at hgood
 simp only [ab.o, hlen]
 generalize aai w.Shocks[i] k = b at *
 rcases hk with rfl | rfl | rfl
 · skip
   refine Ctr.intro Tryz.mixed Tryz.func235 rfl Tryz.vq ?_
   simp -implicitDefEqProofs -dsimp only [go_sem, Tryz.ntmps235, Tryz.results235]
   simp -implicitDefEqProofs -dsimp only [go_sem, ab.v]
   (have ct := ix w (by omega) (by omega); (first | refine ak.at ct ⟨bf, trivial⟩ ?_ | refine aj.at ct ⟨bf, trivial⟩ ?_); clear ct)
   (repeat ((repeat1' (first | simp -implicitDefEqProofs -dsimp only [go_sem, ab.o] | simp -dsimp (disch := omega) only [wrap_i64])); repeat (with_reducible refine ah ?_)))
   (have ct := jx w n (by omega); (first | refine ak.at ct ⟨bf, bf, trivial⟩ ?_ | refine aj.at ct ⟨bf, bf, trivial⟩ ?_); clear ct)
   rw [hix]
   (repeat ((repeat1' (first | simp -implicitDefEqProofs -dsimp only [go_sem, hr, an.cs] | simp -dsimp (disch := omega) only [wrap_i64])); repeat (with_reducible refine ah ?_)))
   (first | refine ak.at (hchg) ⟨bf, bf, trivial⟩ ?_ | refine aj.at (hchg) ⟨bf, bf, trivial⟩ ?_)
   (repeat ((repeat1' (first | simp -implicitDefEqProofs -dsimp only [go_sem, an.v, hsp, Int.toNat_natCast] | simp -dsimp (disch := omega) only [wrap_i64])); repeat (with_reducible refine ah ?_)))
   refine a8.bu (fun g => ?_) (fun g => ?_) <;> (repeat ((repeat1' (first | simp -implicitDefEqProofs -dsimp only [go_sem, g, hsp, Int.toNat_natCast] | simp -dsimp (disch := omega) only [wrap_i64])); repeat (with_reducible refine ah ?_)))
   · skip
     (first | refine ak.at (hgood) ⟨bf, trivial⟩ ?_ | refine aj.at (hgood) ⟨bf, trivial⟩ ?_)
     (repeat ((repeat1' (first | simp -implicitDefEqProofs -dsimp only [go_sem, g] | simp -dsimp (disch := omega) only [wrap_i64])); repeat (with_reducible refine ah ?_)))
     refine al.pick [3, 4] (by decide) (fun j hj => by omega) (.inl ?_) ?_
     · first | rfl | (simp [ren, bg, posOf, ab.o, g]; done)
     · simp only [bc, List.map_cons, List.map_nil, bh, List.getElem?_cons_zero, List.getElem?_cons_succ, ae]
   · skip
     refine al.pick [3, 4] (by decide) (fun j hj => by omega) (.inl ?_) ?_
     · first | rfl | (simp [ren, bg, posOf, ab.o, g]; done)
     · simp only [bc, List.map_cons, List.map_nil, bh, List.getElem?_cons_zero, List.getElem?_cons_succ, ae]
 · skip
   refine Ctr.intro Tryz.mixed Tryz.func235 rfl Tryz.vq ?_
   simp -implicitDefEqProofs -dsimp only [go_sem, Tryz.ntmps235, Tryz.results235]
   simp -implicitDefEqProofs -dsimp only [go_sem, ab.v]
   (have ct := ix w (by omega) (by omega); (first | refine ak.at ct ⟨bf, trivial⟩ ?_ | refine aj.at ct ⟨bf, trivial⟩ ?_); clear ct)
   (repeat ((repeat1' (first | simp -implicitDefEqProofs -dsimp only [go_sem, ab.o] | simp -dsimp (disch := omega) only [wrap_i64])); repeat (with_reducible refine ah ?_)))
   (have ct := jx w n (by omega); (first | refine ak.at ct ⟨bf, bf, trivial⟩ ?_ | refine aj.at ct ⟨bf, bf, trivial⟩ ?_); clear ct)
   rw [hix]
   (repeat ((repeat1' (first | simp -implicitDefEqProofs -dsimp only [go_sem, hr, an.cs] | simp -dsimp (disch := omega) only [wrap_i64])); repeat (with_reducible refine ah ?_)))
   (first | refine ak.at (hchg) ⟨bf, bf, trivial⟩ ?_ | refine aj.at (hchg) ⟨bf, bf, trivial⟩ ?_)
   (repeat ((repeat1' (first | simp -implicitDefEqProofs -dsimp only [go_sem, an.v, hsp, Int.toNat_natCast] | simp -dsimp (disch := omega) only [wrap_i64])); repeat (with_reducible refine ah ?_)))
   refine a8.bu (fun g => ?_) (fun g => ?_) <;> (repeat ((repeat1' (first | simp -implicitDefEqProofs -dsimp only [go_sem, g, hsp, Int.toNat_natCast] | simp -dsimp (disch := omega) only [wrap_i64])); repeat (with_reducible refine ah ?_)))
   · skip
     (first | refine ak.at (hgood) ⟨bf, trivial⟩ ?_ | refine aj.at (hgood) ⟨bf, trivial⟩ ?_)
     (repeat ((repeat1' (first | simp -implicitDefEqProofs -dsimp only [go_sem, g] | simp -dsimp (disch := omega) only [wrap_i64])); repeat (with_reducible refine ah ?_)))
     refine al.pick [3, 4] (by decide) (fun j hj => by omega) (.inl ?_) ?_
     · first | rfl | (simp [ren, bg, posOf, ab.o, g]; done)
     · simp only [bc, List.map_cons, List.map_nil, bh, List.getElem?_cons_zero, List.getElem?_cons_succ, ae]
   · skip
     refine al.pick [3, 4] (by decide) (fun j hj => by omega) (.inl ?_) ?_
     · first | rfl | (simp [ren, bg, posOf, ab.o, g]; done)
     · simp only [bc, List.map_cons, List.map_nil, bh, List.getElem?_cons_zero, List.getElem?_cons_succ, ae]
 · skip
   refine Ctr.intro Tryz.mixed Tryz.func235 rfl Tryz.vq ?_
   simp -implicitDefEqProofs -dsimp only [go_sem, Tryz.ntmps235, Tryz.results235]
   simp -implicitDefEqProofs -dsimp only [go_sem, ab.v]
   (have ct := ix w (by omega) (by omega); (first | refine ak.at ct ⟨bf, trivial⟩ ?_ | refine aj.at ct ⟨bf, trivial⟩ ?_); clear ct)
   (repeat ((repeat1' (first | simp -implicitDefEqProofs -dsimp only [go_sem, ab.o] | simp -dsimp (disch := omega) only [wrap_i64])); repeat (with_reducible refine ah ?_)))
   (have ct := jx w n (by omega); (first | refine ak.at ct ⟨bf, bf, trivial⟩ ?_ | refine aj.at ct ⟨bf, bf, trivial⟩ ?_); clear ct)
   rw [hix]
   (repeat ((repeat1' (first | simp -implicitDefEqProofs -dsimp only [go_sem, hr, an.cs] | simp -dsimp (disch := omega) only [wrap_i64])); repeat (with_reducible refine ah ?_)))
   (first | refine ak.at (hchg) ⟨bf, bf, trivial⟩ ?_ | refine aj.at (hchg) ⟨bf, bf, trivial⟩ ?_)
   (repeat ((repeat1' (first | simp -implicitDefEqProofs -dsimp only [go_sem, an.v, hsp, Int.toNat_natCast] | simp -dsimp (disch := omega) only [wrap_i64])); repeat (with_reducible refine ah ?_)))
   refine a8.bu (fun g => ?_) (fun g => ?_) <;> (repeat ((repeat1' (first | simp -implicitDefEqProofs -dsimp only [go_sem, g, hsp, Int.toNat_natCast] | simp -dsimp (disch := omega) only [wrap_i64])); repeat (with_reducible refine ah ?_)))
   · skip
     (first | refine ak.at (hgood) ⟨bf, trivial⟩ ?_ | refine aj.at (hgood) ⟨bf, trivial⟩ ?_)
     (repeat ((repeat1' (first | simp -implicitDefEqProofs -dsimp only [go_sem, g] | simp -dsimp (disch := omega) only [wrap_i64])); repeat (with_reducible refine ah ?_)))
     refine al.pick [3, 4] (by decide) (fun j hj => by omega) (.inl ?_) ?_
     · first | rfl | (simp [ren, bg, posOf, ab.o, g]; done)
     · simp only [bc, List.map_cons, List.map_nil, bh, List.getElem?_cons_zero, List.getElem?_cons_succ, ae]
   · skip
     refine al.pick [3, 4] (by decide) (fun j hj => by omega) (.inl ?_) ?_
     · first | rfl | (simp [ren, bg, posOf, ab.o, g]; done)
     · simp only [bc, List.map_cons, List.map_nil, bh, List.getElem?_cons_zero, List.getElem?_cons_succ, ae]
theorem oi {w : ab} {k n v : Int} (h : df w k n v = true) : (k = 1 ∧ 1 ≤ v) ∨ (k = 2 ∨ k = 3) ∨ k = 4 ∨ k = 8 ∨ ((k = 5 ∨ k = 6 ∨ k = 7) ∧ -100 ≤ v ∧ v ≤ 100) := by
 unfold df at h
 split at h
 · rename_i hk; simp at h; exact .inl ⟨hk, h.2⟩
 split at h
 · rename_i hk; exact .inr (.inl hk)
 split at h
 · rename_i hk; exact .inr (.inr (.inl hk))
 split at h
 · rename_i hk; simp [eb] at h; exact .inr (.inr (.inr (.inr ⟨.inl hk, by omega, by omega⟩)))
 split at h
 · rename_i hk; simp [eb] at h; exact .inr (.inr (.inr (.inr ⟨.inr (.inl hk), by omega, by omega⟩)))
 · simp at h
   rcases h.1.1 with hk | hk
   · exact .inr (.inr (.inr (.inr ⟨.inr (.inr hk), by omega, by omega⟩)))
   · exact .inr (.inr (.inr (.inl hk)))
theorem akl (w : ab) (k n v : Int) (hw : wB w = true) (hs : df w k n v = true) (hv : v ≤ 9223372036854775807) : Ctr Tryz.prog 235 [w.v, .agg [.int .i64 k, .int .i64 n, .int .i64 v]] [] (.tup [(ey w k n v).o 0 1, .bool (dz w k n v)]) [some (rows az.cs (ey w k n v).Posts), some (rows an.cs (ey w k n v).Shocks)] := by
 rcases oi hs with ⟨rfl, h1⟩ | hk | rfl | rfl | ⟨hk, h1⟩
 · have e : (ey w 1 n v).Posts = w.Posts ∧ (ey w 1 n v).Shocks = w.Shocks := by unfold ey ep; split <;> simp
   rw [e.1, e.2]
   exact ajc w n v hw h1 hv
 · have e : (ey w k n v).Shocks = w.Shocks := by rcases hk with rfl | rfl <;> simp [ey, ep]
   rw [e]
   exact aic w k n v hk hw hs
 · have e : (ey w 4 n v).Posts = w.Posts := by simp [ey, ep]
   rw [e]
   exact aie w n v hw
 · have e : (ey w 8 n v).Posts = w.Posts := by simp [ey, ep]
   rw [e]
   exact ajf w n v hw hs
 · have e : (ey w k n v).Posts = w.Posts := by rcases hk with rfl | rfl | rfl <;> simp [ey, ep]
   rw [e]
   exact aiu w k n v hk hw hs h1
def fa (w : ab) (k n v : Int) : Option ab := if wB w && df w k n v && dz w k n v then some (ep w k n v) else none
def avc : V := .agg [.int .i64 0, .nilsl, .nilsl, .int .i64 0, .int .i64 0]
def aeq : Option ab → V
 | none => .tup [avc, .bool false]
 | some b => .tup [b.o 0 1, .bool true]
def ae2 : Option ab → Hp
 | none => []
 | some b => [some (rows az.cs b.Posts), some (rows an.cs b.Shocks)]
theorem xz {w b : ab} {k n v : Int} (h : fa w k n v = some b) : wB w = true ∧ df w k n v = true ∧ n4 w k n v = true ∧ b = ep w k n v ∧ wB b = true := by
 unfold fa at h
 split at h
 · rename_i h2
   simp only [Bool.and_eq_true, dz] at h2
   simp only [Option.some.injEq] at h
   subst h
   exact ⟨h2.1.1, h2.1.2, h2.2.1, rfl, h2.2.2⟩
 · cases h
theorem akp {w : ab} {k n v : Int} (h : dz w k n v = true) : ey w k n v = ep w k n v := by
 unfold ey
 split
 · rename_i h1
   obtain ⟨rfl, h2⟩ := h1
   simp [dz, n4, h2] at h
 · rfl
theorem ael (w : ab) (k n v : Int) (hp : w.Posts.length ≤ 16777216) (hs : w.Shocks.length ≤ 16777216) (hv : v ≤ 9223372036854775807) : Ctr Tryz.prog 195 [w.v, .agg [.int .i64 k, .int .i64 n, .int .i64 v]] [] (aeq (fa w k n v)) (ae2 (fa w k n v)) := by
 refine Ctr.intro Tryz.mixed Tryz.func195 rfl Tryz.axc ?_
 simp -implicitDefEqProofs -dsimp only [go_sem, Tryz.ntmps195, Tryz.results195]
 simp -implicitDefEqProofs -dsimp only [go_sem, ab.v]
 (have ct := dv w (by omega) (by omega); (first | refine ak.at ct ⟨bf, trivial⟩ ?_ | refine aj.at ct ⟨bf, trivial⟩ ?_); clear ct)
 have no : fa w k n v = none → ∀ h : Hp, al 0 (.tup [.agg [.int .i64 0, .nilsl, .nilsl, .int .i64 0, .int .i64 0], .bool false]) h (aeq (fa w k n v)) (ae2 (fa w k n v)) := by
   intro e h
   rw [e]
   exact al.ax rfl (by rfl)
 cases hw : wB w with
 | false =>
   (repeat ((repeat1' (first | simp -implicitDefEqProofs -dsimp only [go_sem] | simp -dsimp (disch := omega) only [wrap_i64])); repeat (with_reducible refine ah ?_)))
   exact no (by simp [fa, hw]) _
 | true =>
   (repeat ((repeat1' (first | simp -implicitDefEqProofs -dsimp only [go_sem] | simp -dsimp (disch := omega) only [wrap_i64])); repeat (with_reducible refine ah ?_)))
   (have ct := aku w k n v hp hs; (first | refine ak.at ct ⟨bf, bf, trivial⟩ ?_ | refine aj.at ct ⟨bf, bf, trivial⟩ ?_); clear ct)
   cases hst : df w k n v with
   | false =>
     (repeat ((repeat1' (first | simp -implicitDefEqProofs -dsimp only [go_sem] | simp -dsimp (disch := omega) only [wrap_i64])); repeat (with_reducible refine ah ?_)))
     exact no (by simp [fa, hst]) _
   | true =>
     (repeat ((repeat1' (first | simp -implicitDefEqProofs -dsimp only [go_sem] | simp -dsimp (disch := omega) only [wrap_i64])); repeat (with_reducible refine ah ?_)))
     have hm := akl w k n v hw hst hv
     cases hd : dz w k n v with
     | false =>
       rw [hd] at hm
       (first | refine ak.at (hm) ⟨bf, bf, trivial⟩ ?_ | refine aj.at (hm) ⟨bf, bf, trivial⟩ ?_)
       (repeat ((repeat1' (first | simp -implicitDefEqProofs -dsimp only [go_sem, ab.o] | simp -dsimp (disch := omega) only [wrap_i64])); repeat (with_reducible refine ah ?_)))
       exact no (by simp [fa, hd]) _
     | true =>
       rw [hd] at hm
       (first | refine ak.at (hm) ⟨bf, bf, trivial⟩ ?_ | refine aj.at (hm) ⟨bf, bf, trivial⟩ ?_)
       (repeat ((repeat1' (first | simp -implicitDefEqProofs -dsimp only [go_sem, ab.o] | simp -dsimp (disch := omega) only [wrap_i64])); repeat (with_reducible refine ah ?_)))
       have e : fa w k n v = some (ep w k n v) := by simp [fa, hw, hst, hd]
       have e2 := akp hd
       rw [e, ← e2, aeq, ae2]

       refine al.pick [3, 4] (by decide) (fun j hj => by omega) (.inl ?_) ?_
       · first | rfl | (simp [ren, bg, posOf, ab.o]; done)
       · simp only [bc, List.map_cons, List.map_nil, bh, List.getElem?_cons_zero, List.getElem?_cons_succ, ae]
end Go.Proofs
end
section
set_option maxRecDepth 100000
namespace Go.Proofs
open Go.Lv
structure cf where
 Id : Int
 Tick : Int
 X : Int
 Y : Int
 Deep : Int
 Size : Int
 Grade : Int
def cf.cs (r : cf) : List V := [.int .i64 r.Id, .int .i64 r.Tick, .int .i64 r.X, .int .i64 r.Y, .int .i64 r.Deep, .int .i64 r.Size, .int .i64 r.Grade]
def cf.v (r : cf) : V := .agg [.int .i64 r.Id, .int .i64 r.Tick, .int .i64 r.X, .int .i64 r.Y, .int .i64 r.Deep, .int .i64 r.Size, .int .i64 r.Grade]
theorem cf.csl (a : cf) : a.cs.length = 7 := rfl
theorem cf.csp (a : cf) : a.cs.all (cc 2) = true := rfl
instance : nf cf.cs 7 := ⟨fun _ => rfl, fun _ d => by cases d <;> rfl, fun _ => rfl, fun _ => rfl⟩
def cf.ok (r : cf) : Prop := iq r.Id ∧ iq r.Tick ∧ iq r.X ∧ iq r.Y ∧ iq r.Deep ∧ iq r.Size ∧ iq r.Grade
abbrev cf.rows (L : List cf) : List V := Go.Lv.rows cf.cs L
abbrev cf.sl (L : List cf) : V := .sl L.length 7 (Go.Lv.rows cf.cs L)
abbrev cf.zs : List V := [.int .i64 0, .int .i64 0, .int .i64 0, .int .i64 0, .int .i64 0, .int .i64 0, .int .i64 0]
def cf.mk1 (k : Int) : cf := ⟨k, k + 1, k + 1 + 1, k + 1 + 1 + 1, k + 1 + 1 + 1 + 1, k + 1 + 1 + 1 + 1 + 1, k + 1 + 1 + 1 + 1 + 1 + 1⟩
def cf.marks (k : Int) (n : Nat) : List cf := (List.range n).map fun i : Nat => cf.mk1 (k + 7 * (i : Int))
@[simp] theorem cf.dr (k : Int) (n : Nat) : (cf.marks k n).length = n := by simp [cf.marks]
theorem cf.ik (k : Int) (n : Nat) : cf.marks k (n + 1) = cf.marks k n ++ [cf.mk1 (k + 7 * (n : Int))] := by simp [cf.marks, List.range_succ]
theorem cf.jf (k : Int) (n : Nat) {i : Nat} (hi : i < (cf.marks k n).length) : (cf.marks k n)[i] = cf.mk1 (k + 7 * (i : Int)) := by simp [cf.marks]
end Go.Proofs
end
section
set_option maxRecDepth 100000
namespace Go.Proofs
open Go.Lv
def bump (C : List Int) (k : Nat) : List Int := C.set k (C.getD k 0 + 1)
theorem apc (C : List Int) (k : Nat) : (bump C k).length = C.length := by simp [bump]
end Go.Proofs
end
section
set_option maxRecDepth 100000
set_option maxHeartbeats 1000000
namespace Go.Proofs
open Go.Lv
def rf (L : List az) (i : Nat) : List Int := ((L.take i).filter az.Up).map az.Station
theorem ky {L : List az} {i : Nat} (hi : i < L.length) : rf L (i + 1) = rf L i ++ if L[i].Up then [L[i].Station] else [] := by
 rw [rf, List.take_succ_eq_append_getElem hi, List.filter_append, List.map_append]
 congr 1
 cases h : L[i].Up <;> simp [h]
theorem yk (L : List az) (i : Nat) : (rf L i).length ≤ i := by
 rw [rf, List.length_map]
 exact Nat.le_trans (List.length_filter_le _ _) (by simp; omega)
def upR (w : ab) : Option (List Int) := if wB w = true then some (rf w.Posts w.Posts.length) else none
theorem sw (w : ab) (hp : w.Posts.length ≤ 16777216) : Ctr Tryz.prog 202 [w.v] [] (.osl 0 0 (rf w.Posts w.Posts.length).length 1) [some (rows IntS.cs (rf w.Posts w.Posts.length))] := by
 refine Ctr.intro Tryz.mixed Tryz.func202 rfl Tryz.aww ?_
 simp -implicitDefEqProofs -dsimp only [go_sem, Tryz.ntmps202, Tryz.results202]
 simp -implicitDefEqProofs -dsimp only [go_sem, ab.v]
 refine cw.intro (fun i : Nat => i ≤ w.Posts.length) (fun i => ⟨[.undef, .undef, .undef, .osl 1 0 (rf w.Posts i).length 1, .undef, .undef, .undef, .undef, az.sl w.Posts, .int .i64 w.Posts.length, .int .i64 i, .undef, .undef, .undef, .undef, .undef, .undef, .undef, .undef, .undef, .undef, .undef, .undef], [some w.cs, some (rows IntS.cs (rf w.Posts i))], 0⟩) (fun i => w.Posts.length - i) 0 (Nat.zero_le _) ?_ (fun i hi => ?_)
 · refine br.cut (2) (by simp) (by simp) ?_ ?_
   · simp [LeC, LeV, ren, bm, rf]
   · simp [cb, db, ren, rows, rf, ab.cs]
 simp -implicitDefEqProofs -dsimp only [go_sem]
 refine bd.split (fun h1 => ?_) (fun h1 => ?_)
 · simp -implicitDefEqProofs -dsimp only [go_sem, h1]
   have hi' : i < w.Posts.length := by simpa using h1
   have h5 := az.csl w.Posts[i]
   have hr := bt az.csl hi'
   have hul := yk w.Posts i
   (repeat ((repeat1' (first | simp -implicitDefEqProofs -dsimp only [go_sem, hr, az.cs] | simp -dsimp (disch := omega) only [wrap_i64])); repeat (with_reducible refine ah ?_)))
   refine bd.split (fun h6 => ?_) (fun h6 => ?_) <;> simp -implicitDefEqProofs -dsimp only [go_sem, h6]
   · (repeat ((repeat1' (first | simp -implicitDefEqProofs -dsimp only [go_sem, hr, az.cs, ab.cs, ay, Nat.mul_one, bb] | simp -dsimp (disch := omega) only [wrap_i64])); repeat (with_reducible refine ah ?_)))
     refine ⟨i + 1, hi', ?_, by omega⟩
     refine br.cut (2) (by simp) (by simp) ?_ ?_
     · rw [ky hi', h6]
       simp [LeC, LeV, ren, bm]
     · rw [ky hi', h6, if_pos rfl, ← dk]
       simp [cb, db, ae, cx, ren, IntS.cs, ab.cs]
   · try (repeat1' (first | simp -implicitDefEqProofs -dsimp only [go_sem] | simp -dsimp (disch := omega) only [wrap_i64]))
     refine ⟨i + 1, hi', ?_, by omega⟩
     refine br.cut (2) (by simp) (by simp) ?_ ?_
     · rw [ky hi', h6]
       simp [LeC, LeV, ren, bm]
     · rw [ky hi', h6]
       simp [cb, db, ae, ren, ab.cs]
 · simp -implicitDefEqProofs -dsimp only [go_sem, h1]
   have hi' : i = w.Posts.length := by simp at h1; omega
   subst hi'
   refine al.pick [1] (by decide) (fun j hj => by omega) (.inl ?_) ?_
   · first | rfl | (simp [ren, bg, posOf]; done)
   · simp only [bc, List.map_cons, List.map_nil, bh, List.getElem?_cons_zero, List.getElem?_cons_succ, ae]
theorem aj3 (w : ab) (hp : w.Posts.length ≤ 16777216) (hs : w.Shocks.length ≤ 16777216) : Ctr Tryz.prog 205 [w.v] [] (ri 1 (upR w)) (ki IntS.cs (upR w)) := by
 refine Ctr.intro Tryz.mixed Tryz.func205 rfl Tryz.av6 ?_
 simp -implicitDefEqProofs -dsimp only [go_sem, Tryz.ntmps205, Tryz.results205]
 simp -implicitDefEqProofs -dsimp only [go_sem, ab.v]
 cases h : wB w with
 | false =>
   have e : upR w = none := if_neg (by simp [h])
   rw [e]
   repeat' (first | exact al.refl _ _ _ | (refine al.ax ?_ (by rfl); first | rfl | (simp [h, ri, ki, *]; done)) | ((have ct := de w (by omega) (by omega); (first | refine ak.at ct ⟨leA, trivial⟩ ?_ | refine aj.at ct ⟨leA, trivial⟩ ?_); clear ct); simp -implicitDefEqProofs -dsimp only [go_sem, h, ri, ki, *]) | (refine a8.bu (fun _ => ?_) (fun _ => ?_) <;> simp -implicitDefEqProofs -dsimp only [go_sem, h, ri, ki, *]) | (refine a8.ch (fun _ => ?_) (fun _ => ?_) <;> simp -implicitDefEqProofs -dsimp only [go_sem, h, ri, ki, *]) | (refine bd.split (fun _ => ?_) (fun _ => ?_) <;> simp -implicitDefEqProofs -dsimp only [go_sem, h, ri, ki, *]) | (exfalso; simp_all; done))
 | true =>
   have e : upR w = some (rf w.Posts w.Posts.length) := if_pos h
   rw [e]
   repeat (first | ((have ct := de w (by omega) (by omega); (first | refine ak.at ct ⟨leA, trivial⟩ ?_ | refine aj.at ct ⟨leA, trivial⟩ ?_); clear ct); simp -implicitDefEqProofs -dsimp only [go_sem, h]) | ((first | refine ak.at (sw w hp) ⟨leA, trivial⟩ ?_ | refine aj.at (sw w hp) ⟨leA, trivial⟩ ?_); simp -implicitDefEqProofs -dsimp only [go_sem, h]) | (with_reducible refine And.intro (by first | omega | (show bp _ = true; kernel_rfl)) ?_; try (repeat1' (first | simp -implicitDefEqProofs -dsimp only [go_sem, h] | simp -dsimp (disch := omega) only [wrap_i64]))))
   simp only [ri, ki]
   refine al.pick [1] (by decide) (fun j hj => by omega) (.inl ?_) ?_
   · first | rfl | (simp [ren, bg, posOf]; done)
   · simp only [bc, List.map_cons, List.map_nil, bh, List.getElem?_cons_zero, List.getElem?_cons_succ, ae]
theorem ajs (w : ab) (hp : w.Posts.length ≤ 16777216) (hs : w.Shocks.length ≤ 16777216) : Ctr Tryz.prog 253 [w.v] [] (tn 1 (upR w)) (lz IntS.cs (upR w)) := by
 refine Ctr.intro Tryz.mixed Tryz.func253 rfl Tryz.ayl ?_
 simp -implicitDefEqProofs -dsimp only [go_sem, Tryz.ntmps253, Tryz.results253]
 simp -implicitDefEqProofs -dsimp only [go_sem, ab.v]
 cases h : wB w with
 | false =>
   have e : upR w = none := if_neg (by simp [h])
   rw [e]
   repeat (first | ((have ct := dv w (by omega) (by omega); (first | refine ak.at ct ⟨leA, trivial⟩ ?_ | refine aj.at ct ⟨leA, trivial⟩ ?_); clear ct); simp -implicitDefEqProofs -dsimp only [go_sem, h]) | (with_reducible refine And.intro (by first | omega | (show bp _ = true; kernel_rfl)) ?_; try (repeat1' (first | simp -implicitDefEqProofs -dsimp only [go_sem, h] | simp -dsimp (disch := omega) only [wrap_i64]))))
   simp only [tn, lz]
   refine al.pick [1] (by decide) (fun j hj => by omega) (.inl ?_) ?_
   · first | rfl | (simp [ren, bg, posOf]; done)
   · simp only [bc, List.map_cons, List.map_nil, bh, List.getElem?_cons_zero, List.getElem?_cons_succ, ae]
 | true =>
   have e : upR w = some (rf w.Posts w.Posts.length) := if_pos h
   rw [e]
   repeat (first | ((have ct := dv w (by omega) (by omega); (first | refine ak.at ct ⟨leA, trivial⟩ ?_ | refine aj.at ct ⟨leA, trivial⟩ ?_); clear ct); simp -implicitDefEqProofs -dsimp only [go_sem, h]) | (with_reducible refine And.intro (by first | omega | (show bp _ = true; kernel_rfl)) ?_; try (repeat1' (first | simp -implicitDefEqProofs -dsimp only [go_sem, h] | simp -dsimp (disch := omega) only [wrap_i64]))))
   refine cw.intro (fun i : Nat => i ≤ w.Posts.length) (fun i => ⟨[.undef, .ptr 0 0, .undef, .undef, .osl 1 0 (rf w.Posts i).length 1, .int .i64 i, .undef, .undef, .undef, .undef, .undef, .undef, .undef, .undef, .undef, .undef, .undef, .undef, .undef, .undef, .undef, .undef, .undef, .undef, .undef, .undef, .undef, .undef, .undef, .undef, .undef, .undef, .undef, .undef], [some w.cs, some (rows IntS.cs (rf w.Posts i))], 0⟩) (fun i => w.Posts.length - i) 0 (Nat.zero_le _) ?_ (fun i hi => ?_)
   · refine br.cut (2) (by simp) (by simp) ?_ ?_
     · simp [LeC, LeV, ren, bm, rf]
     · simp [cb, db, ren, rows, rf, ab.cs]
   simp -implicitDefEqProofs -dsimp only [go_sem, ab.cs]
   refine bd.split (fun h1 => ?_) (fun h1 => ?_)
   · simp -implicitDefEqProofs -dsimp only [go_sem, h1]
     have hi' : i < w.Posts.length := by simpa using h1
     have h5 := az.csl w.Posts[i]
     have hr := bt az.csl hi'
     have hul := yk w.Posts i
     (repeat ((repeat1' (first | simp -implicitDefEqProofs -dsimp only [go_sem, hr, az.cs, ab.cs] | simp -dsimp (disch := omega) only [wrap_i64])); repeat (with_reducible refine ah ?_)))
     refine bd.split (fun h6 => ?_) (fun h6 => ?_) <;> simp -implicitDefEqProofs -dsimp only [go_sem, h6]
     · (repeat ((repeat1' (first | simp -implicitDefEqProofs -dsimp only [go_sem, hr, az.cs, ab.cs, ay, Nat.mul_one, bb] | simp -dsimp (disch := omega) only [wrap_i64])); repeat (with_reducible refine ah ?_)))
       refine ⟨i + 1, hi', ?_, by omega⟩
       refine br.cut (2) (by simp) (by simp) ?_ ?_
       · rw [ky hi', h6]
         simp [LeC, LeV, ren, bm]
       · rw [ky hi', h6, if_pos rfl, ← dk]
         simp [cb, db, ae, cx, ren, IntS.cs, ab.cs]
     · try (repeat1' (first | simp -implicitDefEqProofs -dsimp only [go_sem] | simp -dsimp (disch := omega) only [wrap_i64]))
       refine ⟨i + 1, hi', ?_, by omega⟩
       refine br.cut (2) (by simp) (by simp) ?_ ?_
       · rw [ky hi', h6]
         simp [LeC, LeV, ren, bm]
       · rw [ky hi', h6]
         simp [cb, db, ae, ren, ab.cs]
   · simp -implicitDefEqProofs -dsimp only [go_sem, h1]
     have hi' : i = w.Posts.length := by simp at h1; omega
     subst hi'
     simp only [tn, lz]
     refine al.pick [1] (by decide) (fun j hj => by omega) (.inl ?_) ?_
     · first | rfl | (simp [ren, bg, posOf]; done)
     · simp only [bc, List.map_cons, List.map_nil, bh, List.getElem?_cons_zero, List.getElem?_cons_succ, ae]
def cm (L : List an) : List Int := L.foldl (fun C x => bump C x.State.toNat) [0, 0, 0, 0]
theorem my {L : List an} {i : Nat} (hi : i < L.length) : cm (L.take (i + 1)) = bump (cm (L.take i)) L[i].State.toNat := by
 rw [List.take_succ_eq_append_getElem hi, cm, List.foldl_append]; rfl
theorem ic {L : List an} : ∀ i, i ≤ L.length → (cm (L.take i)).length = 4
 | 0, _ => by simp [cm]
 | i + 1, hi => by rw [my (by omega : i < L.length), apc, ic i (by omega)]
theorem qs {L : List an} : ∀ i, i ≤ L.length → ∀ x ∈ cm (L.take i), 0 ≤ x ∧ x ≤ i
 | 0, _ => by intro x hx; simp [cm] at hx; omega
 | i + 1, hi => by
   intro x hx
   rw [my (by omega : i < L.length), bump] at hx
   have ih := qs (L := L) i (by omega)
   rcases List.mem_or_eq_of_mem_set hx with h | h
   · have := ih x h; omega
   · subst h
     rw [List.getD_eq_getElem?_getD]
     cases h : (cm (L.take i))[(L[i]'(by omega)).State.toNat]? with
     | none => simp; omega
     | some y => have := ih y (List.mem_of_getElem? h); simp; omega
def oh (w : ab) : Option (List Int) := if wB w = true then some (cm w.Shocks) else none
theorem abu (w : ab) (hp : w.Posts.length ≤ 16777216) (hs : w.Shocks.length ≤ 16777216) : Ctr Tryz.prog 207 [w.v] [] (ri 1 (oh w)) (ki IntS.cs (oh w)) := by
 refine Ctr.intro Tryz.mixed Tryz.func207 rfl Tryz.awu ?_
 simp -implicitDefEqProofs -dsimp only [go_sem, Tryz.ntmps207, Tryz.results207]
 simp -implicitDefEqProofs -dsimp only [go_sem, ab.v]
 cases h : wB w with
 | false =>
   have e : oh w = none := if_neg (by simp [h])
   rw [e]
   repeat' (first | exact al.refl _ _ _ | (refine al.ax ?_ (by rfl); first | rfl | (simp [h, ri, ki, *]; done)) | ((have ct := de w (by omega) (by omega); (first | refine ak.at ct ⟨leA, trivial⟩ ?_ | refine aj.at ct ⟨leA, trivial⟩ ?_); clear ct); simp -implicitDefEqProofs -dsimp only [go_sem, h, ri, ki, *]) | (refine a8.bu (fun _ => ?_) (fun _ => ?_) <;> simp -implicitDefEqProofs -dsimp only [go_sem, h, ri, ki, *]) | (refine a8.ch (fun _ => ?_) (fun _ => ?_) <;> simp -implicitDefEqProofs -dsimp only [go_sem, h, ri, ki, *]) | (refine bd.split (fun _ => ?_) (fun _ => ?_) <;> simp -implicitDefEqProofs -dsimp only [go_sem, h, ri, ki, *]) | (exfalso; simp_all; done))
 | true =>
   have e : oh w = some (cm w.Shocks) := if_pos h
   rw [e]
   repeat (first | ((have ct := de w (by omega) (by omega); (first | refine ak.at ct ⟨leA, trivial⟩ ?_ | refine aj.at ct ⟨leA, trivial⟩ ?_); clear ct); simp -implicitDefEqProofs -dsimp only [go_sem, h]) | (with_reducible refine And.intro (by first | omega | (show bp _ = true; kernel_rfl)) ?_; try (repeat1' (first | simp -implicitDefEqProofs -dsimp only [go_sem, h] | simp -dsimp (disch := omega) only [wrap_i64]))))
   have hz : mo 4 [V.int .i64 0] = rows IntS.cs [0, 0, 0, 0] := rfl
   (repeat ((repeat1' (first | simp -implicitDefEqProofs -dsimp only [go_sem, hz] | simp -dsimp (disch := omega) only [wrap_i64])); repeat (with_reducible refine ah ?_)))
   refine cw.intro (fun i : Nat => i ≤ w.Shocks.length) (fun i => ⟨[.undef, .undef, .undef, .undef, .osl 1 0 4 1, .undef, .undef, .undef, .undef, .undef, .undef, .undef, an.sl w.Shocks, .int .i64 w.Shocks.length, .int .i64 i, .undef, .undef, .undef, .undef, .undef, .undef, .undef, .undef, .undef, .undef, .undef, .undef], [some w.cs, some (rows IntS.cs (cm (w.Shocks.take i)))], 0⟩) (fun i => w.Shocks.length - i) 0 (Nat.zero_le _) ?_ (fun i hi => ?_)
   · refine br.cut (2) (by simp) (by simp) ?_ ?_
     · simp [LeC, LeV, ren, bm]
     · simp [cb, db, ren, ae, cm, ab.cs]
   simp -implicitDefEqProofs -dsimp only [go_sem]
   refine bd.split (fun h1 => ?_) (fun h1 => ?_)
   · simp -implicitDefEqProofs -dsimp only [go_sem, h1]
     have hi' : i < w.Shocks.length := by simpa using h1
     have h5 := an.csl w.Shocks[i]
     have hr := bt an.csl hi'
     have hvi := gq.1 ((dt h).shocks _ (List.getElem_mem hi'))
     obtain ⟨k, hk⟩ : ∃ k : Nat, w.Shocks[i].State = (k : Int) := ⟨w.Shocks[i].State.toNat, by omega⟩
     have hkc : k < (cm (w.Shocks.take i)).length := by rw [ic i hi]; omega
     have hrc := bt IntS.csl hkc
     have hbd := qs i hi _ (List.getElem_mem hkc)
     have hsp := mi IntS.csl hkc ((cm (w.Shocks.take i))[k] + 1)
     have hlc : (rows IntS.cs (cm (w.Shocks.take i))).length = 4 := by rw [ay, ic i hi]
     (repeat ((repeat1' (first | simp -implicitDefEqProofs -dsimp only [go_sem, hr, hk, hrc, IntS.cs, an.cs, hlc, ab.cs] | simp -dsimp (disch := omega) only [wrap_i64])); repeat (with_reducible refine ah ?_)))
     have e2 : cm (w.Shocks.take (i + 1)) = (cm (w.Shocks.take i)).set k ((cm (w.Shocks.take i))[k] + 1) := by
       rw [my hi', hk, Int.toNat_natCast, bump, List.getD_eq_getElem?_getD, List.getElem?_eq_getElem hkc]; rfl
     simp only [IntS.cs] at hsp
     refine ⟨i + 1, hi', ?_, by omega⟩
     refine br.cut (2) (by simp) (by simp) ?_ ?_
     · simp [LeC, LeV, ren, bm]
     · rw [hsp, e2]
       simp [cb, db, ae, ren, ab.cs]
   · simp -implicitDefEqProofs -dsimp only [go_sem, h1]
     have hi' : i = w.Shocks.length := by simp at h1; omega
     subst hi'
     rw [List.take_length]
     have hc := ic (L := w.Shocks) w.Shocks.length (Nat.le_refl _)
     rw [List.take_length] at hc
     simp only [ri, ki, hc]
     refine al.pick [1] (by decide) (fun j hj => by omega) (.inl ?_) ?_
     · first | rfl | (simp [ren, bg, posOf]; done)
     · simp only [bc, List.map_cons, List.map_nil, bh, List.getElem?_cons_zero, List.getElem?_cons_succ, ae]
theorem abv (w : ab) (hp : w.Posts.length ≤ 16777216) (hs : w.Shocks.length ≤ 16777216) : Ctr Tryz.prog 216 [w.v] [] (tn 1 (oh w)) (lz IntS.cs (oh w)) := by
 refine Ctr.intro Tryz.mixed Tryz.func216 rfl Tryz.ayk ?_
 simp -implicitDefEqProofs -dsimp only [go_sem, Tryz.ntmps216, Tryz.results216]
 simp -implicitDefEqProofs -dsimp only [go_sem, ab.v]
 cases h : wB w with
 | false =>
   have e : oh w = none := if_neg (by simp [h])
   rw [e]
   repeat (first | ((have ct := dv w (by omega) (by omega); (first | refine ak.at ct ⟨leA, trivial⟩ ?_ | refine aj.at ct ⟨leA, trivial⟩ ?_); clear ct); simp -implicitDefEqProofs -dsimp only [go_sem, h]) | (with_reducible refine And.intro (by first | omega | (show bp _ = true; kernel_rfl)) ?_; try (repeat1' (first | simp -implicitDefEqProofs -dsimp only [go_sem, h] | simp -dsimp (disch := omega) only [wrap_i64]))))
   simp only [tn, lz]
   refine al.pick [1] (by decide) (fun j hj => by omega) (.inl ?_) ?_
   · first | rfl | (simp [ren, bg, posOf]; done)
   · simp only [bc, List.map_cons, List.map_nil, bh, List.getElem?_cons_zero, List.getElem?_cons_succ, ae]
 | true =>
   have e : oh w = some (cm w.Shocks) := if_pos h
   rw [e]
   repeat (first | ((have ct := dv w (by omega) (by omega); (first | refine ak.at ct ⟨leA, trivial⟩ ?_ | refine aj.at ct ⟨leA, trivial⟩ ?_); clear ct); simp -implicitDefEqProofs -dsimp only [go_sem, h]) | (with_reducible refine And.intro (by first | omega | (show bp _ = true; kernel_rfl)) ?_; try (repeat1' (first | simp -implicitDefEqProofs -dsimp only [go_sem, h] | simp -dsimp (disch := omega) only [wrap_i64]))))
   have hz : mo 4 [V.int .i64 0] = rows IntS.cs [0, 0, 0, 0] := rfl
   (repeat ((repeat1' (first | simp -implicitDefEqProofs -dsimp only [go_sem, hz] | simp -dsimp (disch := omega) only [wrap_i64])); repeat (with_reducible refine ah ?_)))
   refine cw.intro (fun i : Nat => i ≤ w.Shocks.length) (fun i => ⟨[.undef, .ptr 0 0, .undef, .undef, .osl 1 0 4 1, .int .i64 i, .undef, .undef, .undef, .undef, .undef, .undef, .undef, .undef, .undef, .undef, .undef, .undef, .undef, .undef, .undef, .undef, .undef, .undef, .undef, .undef, .undef, .undef, .undef, .undef, .undef, .undef, .undef, .undef], [some w.cs, some (rows IntS.cs (cm (w.Shocks.take i)))], 0⟩) (fun i => w.Shocks.length - i) 0 (Nat.zero_le _) ?_ (fun i hi => ?_)
   · refine br.cut (2) (by simp) (by simp) ?_ ?_
     · simp [LeC, LeV, ren, bm]
     · simp [cb, db, ren, ae, cm, ab.cs]
   simp -implicitDefEqProofs -dsimp only [go_sem, ab.cs]
   refine bd.split (fun h1 => ?_) (fun h1 => ?_)
   · simp -implicitDefEqProofs -dsimp only [go_sem, h1]
     have hi' : i < w.Shocks.length := by simpa using h1
     have h5 := an.csl w.Shocks[i]
     have hr := bt an.csl hi'
     have hvi := gq.1 ((dt h).shocks _ (List.getElem_mem hi'))
     obtain ⟨k, hk⟩ : ∃ k : Nat, w.Shocks[i].State = (k : Int) := ⟨w.Shocks[i].State.toNat, by omega⟩
     have hkc : k < (cm (w.Shocks.take i)).length := by rw [ic i hi]; omega
     have hrc := bt IntS.csl hkc
     have hbd := qs i hi _ (List.getElem_mem hkc)
     have hsp := mi IntS.csl hkc ((cm (w.Shocks.take i))[k] + 1)
     have hlc : (rows IntS.cs (cm (w.Shocks.take i))).length = 4 := by rw [ay, ic i hi]
     (repeat ((repeat1' (first | simp -implicitDefEqProofs -dsimp only [go_sem, hr, hk, hrc, IntS.cs, an.cs, hlc, ab.cs] | simp -dsimp (disch := omega) only [wrap_i64])); repeat (with_reducible refine ah ?_)))
     have e2 : cm (w.Shocks.take (i + 1)) = (cm (w.Shocks.take i)).set k ((cm (w.Shocks.take i))[k] + 1) := by
       rw [my hi', hk, Int.toNat_natCast, bump, List.getD_eq_getElem?_getD, List.getElem?_eq_getElem hkc]; rfl
     simp only [IntS.cs] at hsp
     refine ⟨i + 1, hi', ?_, by omega⟩
     refine br.cut (2) (by simp) (by simp) ?_ ?_
     · simp [LeC, LeV, ren, bm]
     · rw [hsp, e2]
       simp [cb, db, ae, ren, ab.cs]
   · simp -implicitDefEqProofs -dsimp only [go_sem, h1]
     have hi' : i = w.Shocks.length := by simp at h1; omega
     subst hi'
     rw [List.take_length]
     have hc := ic (L := w.Shocks) w.Shocks.length (Nat.le_refl _)
     rw [List.take_length] at hc
     simp only [tn, lz, hc]
     refine al.pick [1] (by decide) (fun j hj => by omega) (.inl ?_) ?_
     · first | rfl | (simp [ren, bg, posOf]; done)
     · simp only [bc, List.map_cons, List.map_nil, bh, List.getElem?_cons_zero, List.getElem?_cons_succ, ae]
end Go.Proofs
end
section
set_option maxRecDepth 100000
set_option maxHeartbeats 1000000
namespace Go.Proofs
open Go.Lv
def ab.oc (r : ab) (i0 i1 : Nat) : List V := [.int .i64 r.Now, .osl i0 0 r.Posts.length 3, .osl i1 0 r.Shocks.length 5, .int .i64 r.Next, .int .i64 r.Archived]
theorem aez (L : List az) (hl : L.length ≤ 16777216) : Ctr Tryz.prog 141 [az.sl L] [] (.osl 0 0 L.length 3) [some (rows az.cs L)] := by
 refine Ctr.intro Tryz.mixed Tryz.func141 rfl Tryz.awg ?_
 simp -implicitDefEqProofs -dsimp only [go_sem, Tryz.ntmps141, Tryz.results141]
 repeat (with_reducible refine ah ?_)
 exact al.refl _ _ _
theorem acj (L : List an) (hl : L.length ≤ 16777216) : Ctr Tryz.prog 142 [an.sl L] [] (.osl 0 0 L.length 5) [some (rows an.cs L)] := by
 refine Ctr.intro Tryz.mixed Tryz.func142 rfl Tryz.awl ?_
 simp -implicitDefEqProofs -dsimp only [go_sem, Tryz.ntmps142, Tryz.results142]
 repeat (with_reducible refine ah ?_)
 exact al.refl _ _ _
theorem dc (w : ab) (hp : w.Posts.length ≤ 16777216) (hs : w.Shocks.length ≤ 16777216) : Ctr Tryz.prog 93 [w.v] [] (w.o 0 1) [some (rows az.cs w.Posts), some (rows an.cs w.Shocks)] := by
 refine Ctr.intro Tryz.mixed Tryz.func93 rfl Tryz.a33 ?_
 simp -implicitDefEqProofs -dsimp only [go_sem, Tryz.ntmps93, Tryz.results93]
 simp -implicitDefEqProofs -dsimp only [go_sem, ab.v]
 repeat (with_reducible refine ah ?_)
 (have ct := aez w.Posts hp; (first | refine ak.at ct ⟨leA, trivial⟩ ?_ | refine aj.at ct ⟨leA, trivial⟩ ?_); clear ct)
 simp -implicitDefEqProofs -dsimp only [go_sem]
 repeat (with_reducible refine ah ?_)
 (have ct := acj w.Shocks hs; (first | refine ak.at ct ⟨leA, trivial⟩ ?_ | refine aj.at ct ⟨leA, trivial⟩ ?_); clear ct)
 simp -implicitDefEqProofs -dsimp only [go_sem]
 repeat (with_reducible refine ah ?_)
 refine al.pick [2, 3] (by decide) (fun j hj => by omega) (.inl ?_) ?_
 · first | rfl | (simp [ren, bg, posOf, ab.o]; done)
 · simp only [bc, List.map_cons, List.map_nil, bh, List.getElem?_cons_zero, List.getElem?_cons_succ, ae]
theorem aql {L : List an} {i : Nat} (hi : i < L.length) (s : Int) : ck (rows an.cs L) (i * 5 + 1) [.int .i64 s] = rows an.cs (L.set i ⟨L[i].Number, s, L[i].Seen, L[i].Size, L[i].Tick⟩) := qi an.csl hi (by omega) rfl
theorem ar2 {L : List an} {i : Nat} (hi : i < L.length) (x : an) (z : Int) : ck (rows an.cs (L.set i x)) (i * 5 + 3) [.int .i64 z] = rows an.cs (L.set i ⟨x.Number, x.State, x.Seen, z, x.Tick⟩) := by
 have h := qi (cs := an.cs) an.csl (L := L.set i x) (j := i) (f := 3) (v := .int .i64 z) (x := ⟨x.Number, x.State, x.Seen, z, x.Tick⟩) (by simpa using hi) (by omega) (by simp; rfl)
 rwa [List.set_set] at h
theorem ft (L : List an) : (rows an.cs L).length = L.length * 5 := je an.csl L
theorem am8 (w : ab) (i : Nat) (k n v : Int) (hk : k = 5 ∨ k = 6 ∨ k = 7) (hw : wB w = true) (hi : i < w.Shocks.length) (hv : -100 ≤ v ∧ v ≤ 100) : Ctr Tryz.prog 272 [.ptr 0 0, .int .i64 i, .agg [.int .i64 k, .int .i64 n, .int .i64 v]] [some (w.oc 1 2), some (rows az.cs w.Posts), some (rows an.cs w.Shocks)] (.bool (aai w.Shocks[i] k)) [some (w.oc 1 2), some (rows az.cs w.Posts), some (rows an.cs (w.Shocks.set i (vj w.Shocks[i] k v)))] := by
 have W := dt hw
 have hx := W.shocks _ (List.getElem_mem hi)
 have hb := gq.1 hx
 have hr := bt an.csl hi
 have hwv : IntKind.i64.wrap (w.Shocks[i].Size + v) = w.Shocks[i].Size + v := wrap_i64 (by omega) (by omega)
 have s1 := aql hi
 have s2 := ar2 hi
 have hl : ∀ x, (w.Shocks.set i x).length = w.Shocks.length := fun x => by simp
 have hroom : i * 5 + 5 ≤ w.Shocks.length * 5 := by omega
 rcases hk with rfl | rfl | rfl
 · skip
   refine Ctr.intro Tryz.mixed Tryz.func272 rfl Tryz.ahn ?_
   simp -implicitDefEqProofs -dsimp only [go_sem, Tryz.ntmps272, Tryz.results272]
   (repeat ((repeat1' (first | simp -implicitDefEqProofs -dsimp only [go_sem, ab.oc, hr, an.cs, hwv] | simp -dsimp (disch := omega) only [wrap_i64])); repeat (with_reducible refine ah ?_)))
   refine n8.path [true, true, true, true, true, true, false, false, false, false] [false, true, true, true, false, false, false, false, false, false] 1 [2] (by kernel_rfl) ?_
   (repeat ((repeat1' (first | simp -implicitDefEqProofs -dsimp only [go_sem, hr, an.cs, hwv, s1, s2, ft, hl] | simp -dsimp (disch := omega) only [wrap_i64])); repeat (with_reducible refine ah ?_)))
   repeat' (first | (refine a8.bu (fun _ => ?_) (fun _ => ?_) <;> (repeat ((repeat1' (first | simp -implicitDefEqProofs -dsimp only [go_sem, *] | simp -dsimp (disch := omega) only [wrap_i64])); repeat (with_reducible refine ah ?_)))) | (refine a8.ch (fun _ => ?_) (fun _ => ?_) <;> (repeat ((repeat1' (first | simp -implicitDefEqProofs -dsimp only [go_sem, *] | simp -dsimp (disch := omega) only [wrap_i64])); repeat (with_reducible refine ah ?_)))))
   all_goals
     refine al.pick [0, 1, 2] (by decide) (fun j hj => by have hj' : j = 0 ∨ j = 1 ∨ j = 2 := (by omega); rcases hj' with rfl | rfl | rfl <;> rfl) (.inl (by first | rfl | (simp [ren, aai, *]; done))) ?_
     simp [bc, bh, ren, bg, posOf, ae, ab.oc, vj, *]
 · skip
   refine Ctr.intro Tryz.mixed Tryz.func272 rfl Tryz.ahn ?_
   simp -implicitDefEqProofs -dsimp only [go_sem, Tryz.ntmps272, Tryz.results272]
   (repeat ((repeat1' (first | simp -implicitDefEqProofs -dsimp only [go_sem, ab.oc, hr, an.cs, hwv] | simp -dsimp (disch := omega) only [wrap_i64])); repeat (with_reducible refine ah ?_)))
   refine n8.path [true, true, true, true, true, true, true, true, true, false, false, false, false] [false, true, true, true, true, true, true, false, false, false, false, false, false] 1 [2] (by kernel_rfl) ?_
   (repeat ((repeat1' (first | simp -implicitDefEqProofs -dsimp only [go_sem, hr, an.cs, hwv, s1, s2, ft, hl] | simp -dsimp (disch := omega) only [wrap_i64])); repeat (with_reducible refine ah ?_)))
   repeat' (first | (refine a8.bu (fun _ => ?_) (fun _ => ?_) <;> (repeat ((repeat1' (first | simp -implicitDefEqProofs -dsimp only [go_sem, *] | simp -dsimp (disch := omega) only [wrap_i64])); repeat (with_reducible refine ah ?_)))) | (refine a8.ch (fun _ => ?_) (fun _ => ?_) <;> (repeat ((repeat1' (first | simp -implicitDefEqProofs -dsimp only [go_sem, *] | simp -dsimp (disch := omega) only [wrap_i64])); repeat (with_reducible refine ah ?_)))))
   all_goals
     refine al.pick [0, 1, 2] (by decide) (fun j hj => by have hj' : j = 0 ∨ j = 1 ∨ j = 2 := (by omega); rcases hj' with rfl | rfl | rfl <;> rfl) (.inl (by first | rfl | (simp [ren, aai, *]; done))) ?_
     simp [bc, bh, ren, bg, posOf, ae, ab.oc, vj, *]
 · skip
   refine Ctr.intro Tryz.mixed Tryz.func272 rfl Tryz.ahn ?_
   simp -implicitDefEqProofs -dsimp only [go_sem, Tryz.ntmps272, Tryz.results272]
   (repeat ((repeat1' (first | simp -implicitDefEqProofs -dsimp only [go_sem, ab.oc, hr, an.cs, hwv, s1, ft, hl] | simp -dsimp (disch := omega) only [wrap_i64])); repeat (with_reducible refine ah ?_)))
   repeat' (first | (refine a8.bu (fun _ => ?_) (fun _ => ?_) <;> (repeat ((repeat1' (first | simp -implicitDefEqProofs -dsimp only [go_sem, *] | simp -dsimp (disch := omega) only [wrap_i64])); repeat (with_reducible refine ah ?_)))) | (refine a8.ch (fun _ => ?_) (fun _ => ?_) <;> (repeat ((repeat1' (first | simp -implicitDefEqProofs -dsimp only [go_sem, *] | simp -dsimp (disch := omega) only [wrap_i64])); repeat (with_reducible refine ah ?_)))))
   all_goals
     refine al.pick [0, 1, 2] (by decide) (fun j hj => by have hj' : j = 0 ∨ j = 1 ∨ j = 2 := (by omega); rcases hj' with rfl | rfl | rfl <;> rfl) (.inl (by first | rfl | (simp [ren, aai, *]; done))) ?_
     simp [bc, bh, ren, bg, posOf, ae, ab.oc, vj, *]
end Go.Proofs
end
