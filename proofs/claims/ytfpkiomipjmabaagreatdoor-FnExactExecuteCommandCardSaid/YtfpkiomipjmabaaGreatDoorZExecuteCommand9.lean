/-
  A part of the proof: texts put together by a program of the prover. Conditions: none.
-/
import Derived.Test.YtfpkiomipjmabaaGreatDoorZExecuteCommand8
set_option linter.unusedSimpArgs false
set_option linter.unusedVariables false
section
set_option maxRecDepth 100000
set_option maxHeartbeats 1000000
namespace Go.Proofs
open Go.Lv
theorem bd {x y : V} (h : LeV x y := by first | exact leA | exact ab.le rfl rfl) : LeV x y := h
def dr (w : ab) (k n v : Int) : Bool := n7 w k n v && wB (eb w k n v)
theorem ahc (w : ab) (n v : Int) (hw : wB w = true) (hv : 1 ≤ v) (hv2 : v ≤ 9223372036854775807) : Ctr Tryz.prog 235 [w.v, .agg [.int .i64 1, .int .i64 n, .int .i64 v]] [] (.tup [(er w 1 n v).o 0 1, .bool (dr w 1 n v)]) [some (rows ay.cs w.Posts), some (rows ai.cs w.Shocks)] := by
 have W := dt hw
 have pl := W.plen
 have sl := W.slen
 have wn := W.now
 have hw1 : IntKind.i64.wrap (1000000 - w.Now) = 1000000 - w.Now := wrap_i64 (by omega) (by omega)
 refine Ctr.intro Tryz.mixed Tryz.func235 rfl Tryz.uq ?_
 simp -implicitDefEqProofs -dsimp only [go_sem, Tryz.ntmps235, Tryz.results235]
 simp -implicitDefEqProofs -dsimp only [go_sem, ab.v]
 (have ct := ic w (by omega) (by omega); (first | refine al.at ct ⟨bd, trivial⟩ ?_ | refine ak.at ct ⟨bd, trivial⟩ ?_); clear ct)
 (repeat ((repeat1' (first | simp -implicitDefEqProofs -dsimp only [go_sem, ab.o, hw1] | simp -dsimp (disch := omega) only [wrap_i64])); repeat (with_reducible refine ah ?_)))
 refine bc.split (fun h1 => ?_) (fun h1 => ?_)
 · (repeat ((repeat1' (first | simp -implicitDefEqProofs -dsimp only [go_sem, h1] | simp -dsimp (disch := omega) only [wrap_i64])); repeat (with_reducible refine ah ?_)))
   have hm : ¬ v ≤ 1000000 - w.Now := by simp at h1; omega
   have e1 : er w 1 n v = w := by simp [er, hm]
   have e2 : dr w 1 n v = false := by simp [dr, n7, hm]
   rw [e1, e2]
   refine aj.pick [3, 4] (by decide) (fun j hj => by omega) (.inl ?_) ?_
   · first | rfl | (simp [ren, bf, posOf, ab.o]; done)
   · simp only [bb, List.map_cons, List.map_nil, bj, List.getElem?_cons_zero, List.getElem?_cons_succ, ae]
 · have hm : v ≤ 1000000 - w.Now := by simp at h1; omega
   have hw2 : IntKind.i64.wrap (w.Now + v) = w.Now + v := wrap_i64 (by omega) (by omega)
   have e1 : er w 1 n v = eb w 1 n v := by simp [er, hm]
   have e3 : eb w 1 n v = ⟨w.Now + v, w.Posts, w.Shocks, w.Next, w.Archived⟩ := by simp [eb]
   have e2 : dr w 1 n v = wB ⟨w.Now + v, w.Posts, w.Shocks, w.Next, w.Archived⟩ := by simp [dr, n7, hm, e3]
   rw [e1, e2, e3]
   (repeat ((repeat1' (first | simp -implicitDefEqProofs -dsimp only [go_sem, h1, hw2] | simp -dsimp (disch := omega) only [wrap_i64])); repeat (with_reducible refine ah ?_)))
   (have ct := du ⟨w.Now + v, w.Posts, w.Shocks, w.Next, w.Archived⟩ (by simp; omega) (by simp; omega); (first | refine al.at ct ⟨bd, trivial⟩ ?_ | refine ak.at ct ⟨bd, trivial⟩ ?_); clear ct)
   (repeat ((repeat1' (first | simp -implicitDefEqProofs -dsimp only [go_sem] | simp -dsimp (disch := omega) only [wrap_i64])); repeat (with_reducible refine ah ?_)))
   refine aj.pick [3, 4] (by decide) (fun j hj => by omega) (.inl ?_) ?_
   · first | rfl | (simp [ren, bf, posOf, ab.o]; done)
   · simp only [bb, List.map_cons, List.map_nil, bj, List.getElem?_cons_zero, List.getElem?_cons_succ, ae]
theorem agn (w : ab) (k n v : Int) (hk : k = 2 ∨ k = 3) (hw : wB w = true) (hs : df w k n v = true) : Ctr Tryz.prog 235 [w.v, .agg [.int .i64 k, .int .i64 n, .int .i64 v]] [] (.tup [(er w k n v).o 0 1, .bool (dr w k n v)]) [some (rows ay.cs (er w k n v).Posts), some (rows ai.cs w.Shocks)] := by
 have W := dt hw
 have pl := W.plen
 have sl := W.slen
 obtain ⟨i, hi, hix, hin⟩ : ∃ i, ∃ h : i < w.Posts.length, iw (j2 n) w.Posts = (i : Int) ∧ j2 n w.Posts[i] = true := by
  have : decide (0 ≤ iw (j2 n) w.Posts) = true := by
   rcases hk with rfl | rfl <;> simp [df] at hs <;> simp [hs.1]
  exact rz this
 have hp : pAt w n = i := by simp [pAt, hix]
 have e1 : er w k n v = ⟨w.Now, w.Posts.set i ⟨n, decide (k = 3), w.Now⟩, w.Shocks, w.Next, w.Archived⟩ := by
  rcases hk with rfl | rfl <;> simp [er, eb, hp]
 have e2 : dr w k n v = (w.Posts[i].Up != decide (k = 3) && wB ⟨w.Now, w.Posts.set i ⟨n, decide (k = 3), w.Now⟩, w.Shocks, w.Next, w.Archived⟩) := by
  rcases hk with rfl | rfl <;> simp [dr, n7, eb, hp, ah0 hi]
 have hr := bu ay.csl hi
 have hsp : ∀ b, ck (rows ay.cs w.Posts) (i * 3) [.int .i64 n, .bool b, .int .i64 w.Now] = rows ay.cs (w.Posts.set i ⟨n, b, w.Now⟩) := fun b => mi (cs := ay.cs) ay.csl hi ⟨n, b, w.Now⟩
 have hgood := du ⟨w.Now, w.Posts.set i ⟨n, decide (k = 3), w.Now⟩, w.Shocks, w.Next, w.Archived⟩ (by simp; omega) (by simp; omega)
 rw [e1, e2]
 have hlen : ∀ p, (w.Posts.set i p).length = w.Posts.length := fun p => by simp
 rcases hk with rfl | rfl
 · have hd : decide ((2 : Int) = 3) = false := rfl
   rw [hd] at hgood ⊢
   simp only [ab.v, hlen] at hgood
   simp only [ab.o, hlen]
   refine Ctr.intro Tryz.mixed Tryz.func235 rfl Tryz.uq ?_
   simp -implicitDefEqProofs -dsimp only [go_sem, Tryz.ntmps235, Tryz.results235]
   simp -implicitDefEqProofs -dsimp only [go_sem, ab.v]
   (have ct := ic w (by omega) (by omega); (first | refine al.at ct ⟨bd, trivial⟩ ?_ | refine ak.at ct ⟨bd, trivial⟩ ?_); clear ct)
   (repeat ((repeat1' (first | simp -implicitDefEqProofs -dsimp only [go_sem, ab.o] | simp -dsimp (disch := omega) only [wrap_i64])); repeat (with_reducible refine ah ?_)))
   (have ct := mj w n (by omega); (first | refine al.at ct ⟨bd, bd, trivial⟩ ?_ | refine ak.at ct ⟨bd, bd, trivial⟩ ?_); clear ct)
   rw [hix]
   (repeat ((repeat1' (first | simp -implicitDefEqProofs -dsimp only [go_sem, hr, ay.cs] | simp -dsimp (disch := omega) only [wrap_i64])); repeat (with_reducible refine ah ?_)))
   refine ax.bq (fun g => ?_) (fun g => ?_) <;> (repeat ((repeat1' (first | simp -implicitDefEqProofs -dsimp only [go_sem, g, hsp, Int.toNat_natCast] | simp -dsimp (disch := omega) only [wrap_i64])); repeat (with_reducible refine ah ?_)))
   · skip
     (first | refine al.at (hgood) ⟨bd, trivial⟩ ?_ | refine ak.at (hgood) ⟨bd, trivial⟩ ?_)
     (repeat ((repeat1' (first | simp -implicitDefEqProofs -dsimp only [go_sem, g] | simp -dsimp (disch := omega) only [wrap_i64])); repeat (with_reducible refine ah ?_)))
     simp at g
     refine aj.pick [3, 4] (by decide) (fun j hj => by omega) (.inl ?_) ?_
     · first | rfl | (simp [ren, bf, posOf, ab.o, g]; done)
     · simp only [bb, List.map_cons, List.map_nil, bj, List.getElem?_cons_zero, List.getElem?_cons_succ, ae]
   · skip
     simp at g
     refine aj.pick [3, 4] (by decide) (fun j hj => by omega) (.inl ?_) ?_
     · first | rfl | (simp [ren, bf, posOf, ab.o, g]; done)
     · simp only [bb, List.map_cons, List.map_nil, bj, List.getElem?_cons_zero, List.getElem?_cons_succ, ae]
 · have hd : decide ((3 : Int) = 3) = true := rfl
   rw [hd] at hgood ⊢
   simp only [ab.v, hlen] at hgood
   simp only [ab.o, hlen]
   refine Ctr.intro Tryz.mixed Tryz.func235 rfl Tryz.uq ?_
   simp -implicitDefEqProofs -dsimp only [go_sem, Tryz.ntmps235, Tryz.results235]
   simp -implicitDefEqProofs -dsimp only [go_sem, ab.v]
   (have ct := ic w (by omega) (by omega); (first | refine al.at ct ⟨bd, trivial⟩ ?_ | refine ak.at ct ⟨bd, trivial⟩ ?_); clear ct)
   (repeat ((repeat1' (first | simp -implicitDefEqProofs -dsimp only [go_sem, ab.o] | simp -dsimp (disch := omega) only [wrap_i64])); repeat (with_reducible refine ah ?_)))
   (have ct := mj w n (by omega); (first | refine al.at ct ⟨bd, bd, trivial⟩ ?_ | refine ak.at ct ⟨bd, bd, trivial⟩ ?_); clear ct)
   rw [hix]
   (repeat ((repeat1' (first | simp -implicitDefEqProofs -dsimp only [go_sem, hr, ay.cs] | simp -dsimp (disch := omega) only [wrap_i64])); repeat (with_reducible refine ah ?_)))
   refine ax.bq (fun g => ?_) (fun g => ?_) <;> (repeat ((repeat1' (first | simp -implicitDefEqProofs -dsimp only [go_sem, g, hsp, Int.toNat_natCast] | simp -dsimp (disch := omega) only [wrap_i64])); repeat (with_reducible refine ah ?_)))
   · skip
     (first | refine al.at (hgood) ⟨bd, trivial⟩ ?_ | refine ak.at (hgood) ⟨bd, trivial⟩ ?_)
     (repeat ((repeat1' (first | simp -implicitDefEqProofs -dsimp only [go_sem, g] | simp -dsimp (disch := omega) only [wrap_i64])); repeat (with_reducible refine ah ?_)))
     simp at g
     refine aj.pick [3, 4] (by decide) (fun j hj => by omega) (.inl ?_) ?_
     · first | rfl | (simp [ren, bf, posOf, ab.o, g]; done)
     · simp only [bb, List.map_cons, List.map_nil, bj, List.getElem?_cons_zero, List.getElem?_cons_succ, ae]
   · skip
     simp at g
     refine aj.pick [3, 4] (by decide) (fun j hj => by omega) (.inl ?_) ?_
     · first | rfl | (simp [ren, bf, posOf, ab.o, g]; done)
     · simp only [bb, List.map_cons, List.map_nil, bj, List.getElem?_cons_zero, List.getElem?_cons_succ, ae]
theorem ahv (w : ab) (n v : Int) (hw : wB w = true) : Ctr Tryz.prog 235 [w.v, .agg [.int .i64 4, .int .i64 n, .int .i64 v]] [] (.tup [(er w 4 n v).o 0 1, .bool (dr w 4 n v)]) [some (rows ay.cs w.Posts), some (rows ai.cs (er w 4 n v).Shocks)] := by
 have W := dt hw
 have pl := W.plen
 have sl := W.slen
 have wn := W.next
 have hwn : IntKind.i64.wrap (w.Next + 1) = w.Next + 1 := wrap_i64 (by omega) (by omega)
 obtain ⟨x, hx⟩ : ∃ x : ai, x = ⟨w.Next, 0, (upN w w.Posts.length : Int), 0, w.Now⟩ := ⟨_, rfl⟩
 have e1 : er w 4 n v = ⟨w.Now, w.Posts, w.Shocks ++ [x], w.Next + 1, w.Archived⟩ := by simp [er, eb, hx]
 have e2 : dr w 4 n v = wB ⟨w.Now, w.Posts, w.Shocks ++ [x], w.Next + 1, w.Archived⟩ := by simp [dr, n7, eb, hx]
 have hsn : rows ai.cs w.Shocks ++ [.int .i64 w.Next, .int .i64 0, .int .i64 (upN w w.Posts.length : Int), .int .i64 0, .int .i64 w.Now] = rows ai.cs (w.Shocks ++ [x]) := by
  rw [hx]
  exact eg (cs := ai.cs) w.Shocks ⟨w.Next, 0, (upN w w.Posts.length : Int), 0, w.Now⟩
 have hln : w.Shocks.length + 1 = (w.Shocks ++ [x]).length := by simp
 have hgood := du ⟨w.Now, w.Posts, w.Shocks ++ [x], w.Next + 1, w.Archived⟩ (by simp; omega) (by simp; omega)
 rw [e1, e2]
 refine Ctr.intro Tryz.mixed Tryz.func235 rfl Tryz.uq ?_
 simp -implicitDefEqProofs -dsimp only [go_sem, Tryz.ntmps235, Tryz.results235]
 simp -implicitDefEqProofs -dsimp only [go_sem, ab.v]
 (have ct := ic w (by omega) (by omega); (first | refine al.at ct ⟨bd, trivial⟩ ?_ | refine ak.at ct ⟨bd, trivial⟩ ?_); clear ct)
 (repeat ((repeat1' (first | simp -implicitDefEqProofs -dsimp only [go_sem, ab.o] | simp -dsimp (disch := omega) only [wrap_i64])); repeat (with_reducible refine ah ?_)))
 (have ct := an3 w (by omega); (first | refine al.at ct ⟨bd, trivial⟩ ?_ | refine ak.at ct ⟨bd, trivial⟩ ?_); clear ct)
 (repeat ((repeat1' (first | simp -implicitDefEqProofs -dsimp only [go_sem, hwn, hsn, hln] | simp -dsimp (disch := omega) only [wrap_i64])); repeat (with_reducible refine ah ?_)))
 (first | refine al.at (hgood) ⟨bd, trivial⟩ ?_ | refine ak.at (hgood) ⟨bd, trivial⟩ ?_)
 (repeat ((repeat1' (first | simp -implicitDefEqProofs -dsimp only [go_sem, hsn] | simp -dsimp (disch := omega) only [wrap_i64])); repeat (with_reducible refine ah ?_)))
 refine aj.pick [3, 4] (by decide) (fun j hj => by omega) (.inl ?_) ?_
 · first | rfl | (simp [ren, bf, posOf, ab.o]; done)
 · simp only [bb, List.map_cons, List.map_nil, bj, List.getElem?_cons_zero, List.getElem?_cons_succ, ae]
theorem age (w : ab) (n v : Int) (hw : wB w = true) (hs : df w 8 n v = true) : Ctr Tryz.prog 235 [w.v, .agg [.int .i64 8, .int .i64 n, .int .i64 v]] [] (.tup [(er w 8 n v).o 0 1, .bool (dr w 8 n v)]) [some (rows ay.cs w.Posts), some (rows ai.cs (er w 8 n v).Shocks)] := by
 have W := dt hw
 have pl := W.plen
 have sl := W.slen
 obtain ⟨i, hi, hix, hin⟩ : ∃ i, ∃ h : i < w.Shocks.length, iw (dh n) w.Shocks = (i : Int) ∧ dh n w.Shocks[i] = true := by
  have : decide (0 ≤ iw (dh n) w.Shocks) = true := by
   simp [df] at hs
   simp [hs.1]
  exact rz this
 have hp : sAt w n = i := by simp [sAt, hix]
 have e1 : er w 8 n v = im w i := by simp [er, eb, im, hp]
 have e2 : dr w 8 n v = (abi w (aid w i) && wB (im w i)) := by simp [dr, n7, eb, im, hp]
 have hgood := du (im w i) (by simp [im]; omega) (by simp [im]; omega)
 have harch := acy w i hw hi
 have e3 : (im w i).Shocks = w.Shocks.take i ++ w.Shocks.drop (i + 1) := rfl
 rw [e1, e2, e3]
 refine Ctr.intro Tryz.mixed Tryz.func235 rfl Tryz.uq ?_
 simp -implicitDefEqProofs -dsimp only [go_sem, Tryz.ntmps235, Tryz.results235]
 simp -implicitDefEqProofs -dsimp only [go_sem, ab.v]
 (have ct := ic w (by omega) (by omega); (first | refine al.at ct ⟨bd, trivial⟩ ?_ | refine ak.at ct ⟨bd, trivial⟩ ?_); clear ct)
 (repeat ((repeat1' (first | simp -implicitDefEqProofs -dsimp only [go_sem, ab.o] | simp -dsimp (disch := omega) only [wrap_i64])); repeat (with_reducible refine ah ?_)))
 (have ct := jn w n (by omega); (first | refine al.at ct ⟨bd, bd, trivial⟩ ?_ | refine ak.at ct ⟨bd, bd, trivial⟩ ?_); clear ct)
 rw [hix]
 (repeat ((repeat1' (first | simp -implicitDefEqProofs -dsimp only [go_sem] | simp -dsimp (disch := omega) only [wrap_i64])); repeat (with_reducible refine ah ?_)))
 (first | refine al.at (harch) ⟨bd, bd, trivial⟩ ?_ | refine ak.at (harch) ⟨bd, bd, trivial⟩ ?_)
 (repeat ((repeat1' (first | simp -implicitDefEqProofs -dsimp only [go_sem, ab.o] | simp -dsimp (disch := omega) only [wrap_i64])); repeat (with_reducible refine ah ?_)))
 refine ax.bq (fun g => ?_) (fun g => ?_) <;> (repeat ((repeat1' (first | simp -implicitDefEqProofs -dsimp only [go_sem, g] | simp -dsimp (disch := omega) only [wrap_i64])); repeat (with_reducible refine ah ?_)))
 · skip
   (first | refine al.at (hgood) ⟨bd, trivial⟩ ?_ | refine ak.at (hgood) ⟨bd, trivial⟩ ?_)
   (repeat ((repeat1' (first | simp -implicitDefEqProofs -dsimp only [go_sem, g] | simp -dsimp (disch := omega) only [wrap_i64])); repeat (with_reducible refine ah ?_)))
   refine aj.pick [6, 7] (by decide) (fun j hj => by omega) (.inl ?_) ?_
   · first | rfl | (simp [ren, bf, posOf, ab.o, g, im]; done)
   · simp only [bb, List.map_cons, List.map_nil, bj, List.getElem?_cons_zero, List.getElem?_cons_succ, ae]
 · skip
   refine aj.pick [6, 7] (by decide) (fun j hj => by omega) (.inl ?_) ?_
   · first | rfl | (simp [ren, bf, posOf, ab.o, g, im]; done)
   · simp only [bb, List.map_cons, List.map_nil, bj, List.getElem?_cons_zero, List.getElem?_cons_succ, ae]
theorem ag1 (w : ab) (k n v : Int) (hk : k = 5 ∨ k = 6 ∨ k = 7) (hw : wB w = true) (hs : df w k n v = true) (hv : -100 ≤ v ∧ v ≤ 100) : Ctr Tryz.prog 235 [w.v, .agg [.int .i64 k, .int .i64 n, .int .i64 v]] [] (.tup [(er w k n v).o 0 1, .bool (dr w k n v)]) [some (rows ay.cs w.Posts), some (rows ai.cs (er w k n v).Shocks)] := by
 have W := dt hw
 have pl := W.plen
 have sl := W.slen
 obtain ⟨i, hi, hix, hin⟩ : ∃ i, ∃ h : i < w.Shocks.length, iw (dh n) w.Shocks = (i : Int) ∧ dh n w.Shocks[i] = true := by
  have : decide (0 ≤ iw (dh n) w.Shocks) = true := by
   rcases hk with rfl | rfl | rfl <;> simp [df] at hs <;> simp [hs]
  exact rz this
 have hp : sAt w n = i := by simp [sAt, hix]
 have hsh := xi hi
 have e1 : er w k n v = ⟨w.Now, w.Posts, w.Shocks.set i (uo w.Shocks[i] k v), w.Next, w.Archived⟩ := by
  rcases hk with rfl | rfl | rfl <;> simp [er, eb, hp, hsh]
 have e2 : dr w k n v = (yf w.Shocks[i] k && wB ⟨w.Now, w.Posts, w.Shocks.set i (uo w.Shocks[i] k v), w.Next, w.Archived⟩) := by
  rcases hk with rfl | rfl | rfl <;> simp [dr, n7, eb, hp, hsh]
 have hr := bu ai.csl hi
 have hchg := afi w.Next w.Now w.Shocks[i] k n v (W.shocks _ (List.getElem_mem hi)) hk hv
 have hlen : ∀ p, (w.Shocks.set i p).length = w.Shocks.length := fun p => by simp
 have hgood := du ⟨w.Now, w.Posts, w.Shocks.set i (uo w.Shocks[i] k v), w.Next, w.Archived⟩ (by simp; omega) (by simp; omega)
 generalize uo w.Shocks[i] k v = y at e1 e2 hchg hgood
 have hsp : ck (rows ai.cs w.Shocks) (i * 5) [.int .i64 y.Number, .int .i64 y.State, .int .i64 y.Seen, .int .i64 y.Size, .int .i64 y.Tick] = rows ai.cs (w.Shocks.set i y) := mi (cs := ai.cs) ai.csl hi y
 rw [e1, e2]
 clear e1 e2
 simp only [ab.v, hlen] at hgood
 simp only [ab.o, hlen]
 generalize yf w.Shocks[i] k = b at *
 rcases hk with rfl | rfl | rfl
 · skip
   refine Ctr.intro Tryz.mixed Tryz.func235 rfl Tryz.uq ?_
   simp -implicitDefEqProofs -dsimp only [go_sem, Tryz.ntmps235, Tryz.results235]
   simp -implicitDefEqProofs -dsimp only [go_sem, ab.v]
   (have ct := ic w (by omega) (by omega); (first | refine al.at ct ⟨bd, trivial⟩ ?_ | refine ak.at ct ⟨bd, trivial⟩ ?_); clear ct)
   (repeat ((repeat1' (first | simp -implicitDefEqProofs -dsimp only [go_sem, ab.o] | simp -dsimp (disch := omega) only [wrap_i64])); repeat (with_reducible refine ah ?_)))
   (have ct := jn w n (by omega); (first | refine al.at ct ⟨bd, bd, trivial⟩ ?_ | refine ak.at ct ⟨bd, bd, trivial⟩ ?_); clear ct)
   rw [hix]
   (repeat ((repeat1' (first | simp -implicitDefEqProofs -dsimp only [go_sem, hr, ai.cs] | simp -dsimp (disch := omega) only [wrap_i64])); repeat (with_reducible refine ah ?_)))
   (first | refine al.at (hchg) ⟨bd, bd, trivial⟩ ?_ | refine ak.at (hchg) ⟨bd, bd, trivial⟩ ?_)
   (repeat ((repeat1' (first | simp -implicitDefEqProofs -dsimp only [go_sem, ai.v, hsp, Int.toNat_natCast] | simp -dsimp (disch := omega) only [wrap_i64])); repeat (with_reducible refine ah ?_)))
   refine ax.bq (fun g => ?_) (fun g => ?_) <;> (repeat ((repeat1' (first | simp -implicitDefEqProofs -dsimp only [go_sem, g, hsp, Int.toNat_natCast] | simp -dsimp (disch := omega) only [wrap_i64])); repeat (with_reducible refine ah ?_)))
   · skip
     (first | refine al.at (hgood) ⟨bd, trivial⟩ ?_ | refine ak.at (hgood) ⟨bd, trivial⟩ ?_)
     (repeat ((repeat1' (first | simp -implicitDefEqProofs -dsimp only [go_sem, g] | simp -dsimp (disch := omega) only [wrap_i64])); repeat (with_reducible refine ah ?_)))
     refine aj.pick [3, 4] (by decide) (fun j hj => by omega) (.inl ?_) ?_
     · first | rfl | (simp [ren, bf, posOf, ab.o, g]; done)
     · simp only [bb, List.map_cons, List.map_nil, bj, List.getElem?_cons_zero, List.getElem?_cons_succ, ae]
   · skip
     refine aj.pick [3, 4] (by decide) (fun j hj => by omega) (.inl ?_) ?_
     · first | rfl | (simp [ren, bf, posOf, ab.o, g]; done)
     · simp only [bb, List.map_cons, List.map_nil, bj, List.getElem?_cons_zero, List.getElem?_cons_succ, ae]
 · skip
   refine Ctr.intro Tryz.mixed Tryz.func235 rfl Tryz.uq ?_
   simp -implicitDefEqProofs -dsimp only [go_sem, Tryz.ntmps235, Tryz.results235]
   simp -implicitDefEqProofs -dsimp only [go_sem, ab.v]
   (have ct := ic w (by omega) (by omega); (first | refine al.at ct ⟨bd, trivial⟩ ?_ | refine ak.at ct ⟨bd, trivial⟩ ?_); clear ct)
   (repeat ((repeat1' (first | simp -implicitDefEqProofs -dsimp only [go_sem, ab.o] | simp -dsimp (disch := omega) only [wrap_i64])); repeat (with_reducible refine ah ?_)))
   (have ct := jn w n (by omega); (first | refine al.at ct ⟨bd, bd, trivial⟩ ?_ | refine ak.at ct ⟨bd, bd, trivial⟩ ?_); clear ct)
   rw [hix]
   (repeat ((repeat1' (first | simp -implicitDefEqProofs -dsimp only [go_sem, hr, ai.cs] | simp -dsimp (disch := omega) only [wrap_i64])); repeat (with_reducible refine ah ?_)))
   (first | refine al.at (hchg) ⟨bd, bd, trivial⟩ ?_ | refine ak.at (hchg) ⟨bd, bd, trivial⟩ ?_)
   (repeat ((repeat1' (first | simp -implicitDefEqProofs -dsimp only [go_sem, ai.v, hsp, Int.toNat_natCast] | simp -dsimp (disch := omega) only [wrap_i64])); repeat (with_reducible refine ah ?_)))
   refine ax.bq (fun g => ?_) (fun g => ?_) <;> (repeat ((repeat1' (first | simp -implicitDefEqProofs -dsimp only [go_sem, g, hsp, Int.toNat_natCast] | simp -dsimp (disch := omega) only [wrap_i64])); repeat (with_reducible refine ah ?_)))
   · skip
     (first | refine al.at (hgood) ⟨bd, trivial⟩ ?_ | refine ak.at (hgood) ⟨bd, trivial⟩ ?_)
     (repeat ((repeat1' (first | simp -implicitDefEqProofs -dsimp only [go_sem, g] | simp -dsimp (disch := omega) only [wrap_i64])); repeat (with_reducible refine ah ?_)))
     refine aj.pick [3, 4] (by decide) (fun j hj => by omega) (.inl ?_) ?_
     · first | rfl | (simp [ren, bf, posOf, ab.o, g]; done)
     · simp only [bb, List.map_cons, List.map_nil, bj, List.getElem?_cons_zero, List.getElem?_cons_succ, ae]
   · skip
     refine aj.pick [3, 4] (by decide) (fun j hj => by omega) (.inl ?_) ?_
     · first | rfl | (simp [ren, bf, posOf, ab.o, g]; done)
     · simp only [bb, List.map_cons, List.map_nil, bj, List.getElem?_cons_zero, List.getElem?_cons_succ, ae]
 · skip
   refine Ctr.intro Tryz.mixed Tryz.func235 rfl Tryz.uq ?_
   simp -implicitDefEqProofs -dsimp only [go_sem, Tryz.ntmps235, Tryz.results235]
   simp -implicitDefEqProofs -dsimp only [go_sem, ab.v]
   (have ct := ic w (by omega) (by omega); (first | refine al.at ct ⟨bd, trivial⟩ ?_ | refine ak.at ct ⟨bd, trivial⟩ ?_); clear ct)
   (repeat ((repeat1' (first | simp -implicitDefEqProofs -dsimp only [go_sem, ab.o] | simp -dsimp (disch := omega) only [wrap_i64])); repeat (with_reducible refine ah ?_)))
   (have ct := jn w n (by omega); (first | refine al.at ct ⟨bd, bd, trivial⟩ ?_ | refine ak.at ct ⟨bd, bd, trivial⟩ ?_); clear ct)
   rw [hix]
   (repeat ((repeat1' (first | simp -implicitDefEqProofs -dsimp only [go_sem, hr, ai.cs] | simp -dsimp (disch := omega) only [wrap_i64])); repeat (with_reducible refine ah ?_)))
   (first | refine al.at (hchg) ⟨bd, bd, trivial⟩ ?_ | refine ak.at (hchg) ⟨bd, bd, trivial⟩ ?_)
   (repeat ((repeat1' (first | simp -implicitDefEqProofs -dsimp only [go_sem, ai.v, hsp, Int.toNat_natCast] | simp -dsimp (disch := omega) only [wrap_i64])); repeat (with_reducible refine ah ?_)))
   refine ax.bq (fun g => ?_) (fun g => ?_) <;> (repeat ((repeat1' (first | simp -implicitDefEqProofs -dsimp only [go_sem, g, hsp, Int.toNat_natCast] | simp -dsimp (disch := omega) only [wrap_i64])); repeat (with_reducible refine ah ?_)))
   · skip
     (first | refine al.at (hgood) ⟨bd, trivial⟩ ?_ | refine ak.at (hgood) ⟨bd, trivial⟩ ?_)
     (repeat ((repeat1' (first | simp -implicitDefEqProofs -dsimp only [go_sem, g] | simp -dsimp (disch := omega) only [wrap_i64])); repeat (with_reducible refine ah ?_)))
     refine aj.pick [3, 4] (by decide) (fun j hj => by omega) (.inl ?_) ?_
     · first | rfl | (simp [ren, bf, posOf, ab.o, g]; done)
     · simp only [bb, List.map_cons, List.map_nil, bj, List.getElem?_cons_zero, List.getElem?_cons_succ, ae]
   · skip
     refine aj.pick [3, 4] (by decide) (fun j hj => by omega) (.inl ?_) ?_
     · first | rfl | (simp [ren, bf, posOf, ab.o, g]; done)
     · simp only [bb, List.map_cons, List.map_nil, bj, List.getElem?_cons_zero, List.getElem?_cons_succ, ae]
theorem ob {w : ab} {k n v : Int} (h : df w k n v = true) : (k = 1 ∧ 1 ≤ v) ∨ (k = 2 ∨ k = 3) ∨ k = 4 ∨ k = 8 ∨ ((k = 5 ∨ k = 6 ∨ k = 7) ∧ -100 ≤ v ∧ v ≤ 100) := by
 unfold df at h
 split at h
 · rename_i hk; simp at h; exact .inl ⟨hk, h.2⟩
 split at h
 · rename_i hk; exact .inr (.inl hk)
 split at h
 · rename_i hk; exact .inr (.inr (.inl hk))
 split at h
 · rename_i hk; simp [ed] at h; exact .inr (.inr (.inr (.inr ⟨.inl hk, by omega, by omega⟩)))
 split at h
 · rename_i hk; simp [ed] at h; exact .inr (.inr (.inr (.inr ⟨.inr (.inl hk), by omega, by omega⟩)))
 · simp at h
   rcases h.1.1 with hk | hk
   · exact .inr (.inr (.inr (.inr ⟨.inr (.inr hk), by omega, by omega⟩)))
   · exact .inr (.inr (.inr (.inl hk)))
theorem ah6 (w : ab) (k n v : Int) (hw : wB w = true) (hs : df w k n v = true) (hv : v ≤ 9223372036854775807) : Ctr Tryz.prog 235 [w.v, .agg [.int .i64 k, .int .i64 n, .int .i64 v]] [] (.tup [(er w k n v).o 0 1, .bool (dr w k n v)]) [some (rows ay.cs (er w k n v).Posts), some (rows ai.cs (er w k n v).Shocks)] := by
 rcases ob hs with ⟨rfl, h1⟩ | hk | rfl | rfl | ⟨hk, h1⟩
 · have e : (er w 1 n v).Posts = w.Posts ∧ (er w 1 n v).Shocks = w.Shocks := by unfold er eb; split <;> simp
   rw [e.1, e.2]
   exact ahc w n v hw h1 hv
 · have e : (er w k n v).Shocks = w.Shocks := by rcases hk with rfl | rfl <;> simp [er, eb]
   rw [e]
   exact agn w k n v hk hw hs
 · have e : (er w 4 n v).Posts = w.Posts := by simp [er, eb]
   rw [e]
   exact ahv w n v hw
 · have e : (er w 8 n v).Posts = w.Posts := by simp [er, eb]
   rw [e]
   exact age w n v hw hs
 · have e : (er w k n v).Posts = w.Posts := by rcases hk with rfl | rfl | rfl <;> simp [er, eb]
   rw [e]
   exact ag1 w k n v hk hw hs h1
def ey (w : ab) (k n v : Int) : Option ab := if wB w && df w k n v && dr w k n v then some (eb w k n v) else none
def asr : V := .agg [.int .i64 0, .nilsl, .nilsl, .int .i64 0, .int .i64 0]
def ac1 : Option ab → V
 | none => .tup [asr, .bool false]
 | some b => .tup [b.o 0 1, .bool true]
def ac8 : Option ab → Hp
 | none => []
 | some b => [some (rows ay.cs b.Posts), some (rows ai.cs b.Shocks)]
theorem wq {w b : ab} {k n v : Int} (h : ey w k n v = some b) : wB w = true ∧ df w k n v = true ∧ n7 w k n v = true ∧ b = eb w k n v ∧ wB b = true := by
 unfold ey at h
 split at h
 · rename_i h2
   simp only [Bool.and_eq_true, dr] at h2
   simp only [Option.some.injEq] at h
   subst h
   exact ⟨h2.1.1, h2.1.2, h2.2.1, rfl, h2.2.2⟩
 · cases h
theorem ajc {w : ab} {k n v : Int} (h : dr w k n v = true) : er w k n v = eb w k n v := by
 unfold er
 split
 · rename_i h1
   obtain ⟨rfl, h2⟩ := h1
   simp [dr, n7, h2] at h
 · rfl
theorem ac5 (w : ab) (k n v : Int) (hp : w.Posts.length ≤ 16777216) (hs : w.Shocks.length ≤ 16777216) (hv : v ≤ 9223372036854775807) : Ctr Tryz.prog 195 [w.v, .agg [.int .i64 k, .int .i64 n, .int .i64 v]] [] (ac1 (ey w k n v)) (ac8 (ey w k n v)) := by
 refine Ctr.intro Tryz.mixed Tryz.func195 rfl Tryz.avs ?_
 simp -implicitDefEqProofs -dsimp only [go_sem, Tryz.ntmps195, Tryz.results195]
 simp -implicitDefEqProofs -dsimp only [go_sem, ab.v]
 (have ct := du w (by omega) (by omega); (first | refine al.at ct ⟨bd, trivial⟩ ?_ | refine ak.at ct ⟨bd, trivial⟩ ?_); clear ct)
 have no : ey w k n v = none → ∀ h : Hp, aj 0 (.tup [.agg [.int .i64 0, .nilsl, .nilsl, .int .i64 0, .int .i64 0], .bool false]) h (ac1 (ey w k n v)) (ac8 (ey w k n v)) := by
  intro e h
  rw [e]
  exact aj.au rfl (by rfl)
 cases hw : wB w with
 | false =>
  (repeat ((repeat1' (first | simp -implicitDefEqProofs -dsimp only [go_sem] | simp -dsimp (disch := omega) only [wrap_i64])); repeat (with_reducible refine ah ?_)))
  exact no (by simp [ey, hw]) _
 | true =>
  (repeat ((repeat1' (first | simp -implicitDefEqProofs -dsimp only [go_sem] | simp -dsimp (disch := omega) only [wrap_i64])); repeat (with_reducible refine ah ?_)))
  (have ct := aiz w k n v hp hs; (first | refine al.at ct ⟨bd, bd, trivial⟩ ?_ | refine ak.at ct ⟨bd, bd, trivial⟩ ?_); clear ct)
  cases hst : df w k n v with
  | false =>
   (repeat ((repeat1' (first | simp -implicitDefEqProofs -dsimp only [go_sem] | simp -dsimp (disch := omega) only [wrap_i64])); repeat (with_reducible refine ah ?_)))
   exact no (by simp [ey, hst]) _
  | true =>
   (repeat ((repeat1' (first | simp -implicitDefEqProofs -dsimp only [go_sem] | simp -dsimp (disch := omega) only [wrap_i64])); repeat (with_reducible refine ah ?_)))
   have hm := ah6 w k n v hw hst hv
   cases hd : dr w k n v with
   | false =>
    rw [hd] at hm
    (first | refine al.at (hm) ⟨bd, bd, trivial⟩ ?_ | refine ak.at (hm) ⟨bd, bd, trivial⟩ ?_)
    (repeat ((repeat1' (first | simp -implicitDefEqProofs -dsimp only [go_sem, ab.o] | simp -dsimp (disch := omega) only [wrap_i64])); repeat (with_reducible refine ah ?_)))
    exact no (by simp [ey, hd]) _
   | true =>
    rw [hd] at hm
    (first | refine al.at (hm) ⟨bd, bd, trivial⟩ ?_ | refine ak.at (hm) ⟨bd, bd, trivial⟩ ?_)
    (repeat ((repeat1' (first | simp -implicitDefEqProofs -dsimp only [go_sem, ab.o] | simp -dsimp (disch := omega) only [wrap_i64])); repeat (with_reducible refine ah ?_)))
    have e : ey w k n v = some (eb w k n v) := by simp [ey, hw, hst, hd]
    have e2 := ajc hd
    rw [e, ← e2, ac1, ac8]

    refine aj.pick [3, 4] (by decide) (fun j hj => by omega) (.inl ?_) ?_
    · first | rfl | (simp [ren, bf, posOf, ab.o]; done)
    · simp only [bb, List.map_cons, List.map_nil, bj, List.getElem?_cons_zero, List.getElem?_cons_succ, ae]
end Go.Proofs
end
section
set_option maxRecDepth 100000
namespace Go.Proofs
open Go.Lv
structure cf where
 Id : Int
 Tick : Int
 X : Int
 Y : Int
 Deep : Int
 Size : Int
 Grade : Int
def cf.cs (r : cf) : List V := [.int .i64 r.Id, .int .i64 r.Tick, .int .i64 r.X, .int .i64 r.Y, .int .i64 r.Deep, .int .i64 r.Size, .int .i64 r.Grade]
def cf.v (r : cf) : V := .agg [.int .i64 r.Id, .int .i64 r.Tick, .int .i64 r.X, .int .i64 r.Y, .int .i64 r.Deep, .int .i64 r.Size, .int .i64 r.Grade]
theorem cf.csl (a : cf) : a.cs.length = 7 := rfl
theorem cf.csp (a : cf) : a.cs.all (cb 2) = true := rfl
instance : pn cf.cs 7 := ⟨fun _ => rfl, fun _ d => by cases d <;> rfl, fun _ => rfl, fun _ => rfl⟩
def cf.ok (r : cf) : Prop := gz r.Id ∧ gz r.Tick ∧ gz r.X ∧ gz r.Y ∧ gz r.Deep ∧ gz r.Size ∧ gz r.Grade
abbrev cf.rows (L : List cf) : List V := Go.Lv.rows cf.cs L
abbrev cf.sl (L : List cf) : V := .sl L.length 7 (Go.Lv.rows cf.cs L)
abbrev cf.zs : List V := [.int .i64 0, .int .i64 0, .int .i64 0, .int .i64 0, .int .i64 0, .int .i64 0, .int .i64 0]
def cf.mk1 (k : Int) : cf := ⟨k, k + 1, k + 1 + 1, k + 1 + 1 + 1, k + 1 + 1 + 1 + 1, k + 1 + 1 + 1 + 1 + 1, k + 1 + 1 + 1 + 1 + 1 + 1⟩
def cf.marks (k : Int) (n : Nat) : List cf := (List.range n).map fun i : Nat => cf.mk1 (k + 7 * (i : Int))
@[simp] theorem cf.fx (k : Int) (n : Nat) : (cf.marks k n).length = n := by simp [cf.marks]
theorem cf.kv (k : Int) (n : Nat) : cf.marks k (n + 1) = cf.marks k n ++ [cf.mk1 (k + 7 * (n : Int))] := by simp [cf.marks, List.range_succ]
theorem cf.ml (k : Int) (n : Nat) {i : Nat} (hi : i < (cf.marks k n).length) : (cf.marks k n)[i] = cf.mk1 (k + 7 * (i : Int)) := by simp [cf.marks]
end Go.Proofs
end
section
set_option maxRecDepth 100000
namespace Go.Proofs
open Go.Lv
def bump (C : List Int) (k : Nat) : List Int := C.set k (C.getD k 0 + 1)
theorem amx (C : List Int) (k : Nat) : (bump C k).length = C.length := by simp [bump]
end Go.Proofs
end
section
set_option maxRecDepth 100000
set_option maxHeartbeats 1000000
namespace Go.Proofs
open Go.Lv
def q9 (L : List ay) (i : Nat) : List Int := ((L.take i).filter ay.Up).map ay.Station
theorem lg {L : List ay} {i : Nat} (hi : i < L.length) : q9 L (i + 1) = q9 L i ++ if L[i].Up then [L[i].Station] else [] := by
 rw [q9, List.take_succ_eq_append_getElem hi, List.filter_append, List.map_append]
 congr 1
 cases h : L[i].Up <;> simp [h]
theorem xq (L : List ay) (i : Nat) : (q9 L i).length ≤ i := by
 rw [q9, List.length_map]
 exact Nat.le_trans (List.length_filter_le _ _) (by simp; omega)
def upR (w : ab) : Option (List Int) := if wB w = true then some (q9 w.Posts w.Posts.length) else none
theorem sr (w : ab) (hp : w.Posts.length ≤ 16777216) : Ctr Tryz.prog 202 [w.v] [] (.osl 0 0 (q9 w.Posts w.Posts.length).length 1) [some (rows IntS.cs (q9 w.Posts w.Posts.length))] := by
 refine Ctr.intro Tryz.mixed Tryz.func202 rfl Tryz.axw ?_
 simp -implicitDefEqProofs -dsimp only [go_sem, Tryz.ntmps202, Tryz.results202]
 simp -implicitDefEqProofs -dsimp only [go_sem, ab.v]
 refine de.intro (fun i : Nat => i ≤ w.Posts.length) (fun i => ⟨[.undef, .undef, .undef, .osl 1 0 (q9 w.Posts i).length 1, .undef, .undef, .undef, .undef, ay.sl w.Posts, .int .i64 w.Posts.length, .int .i64 i, .undef, .undef, .undef, .undef, .undef, .undef, .undef, .undef, .undef, .undef, .undef, .undef], [some w.cs, some (rows IntS.cs (q9 w.Posts i))], 0⟩) (fun i => w.Posts.length - i) 0 (Nat.zero_le _) ?_ (fun i hi => ?_)
 · refine bt.cut (2) (by simp) (by simp) ?_ ?_
   · simp [LeC, LeV, ren, br, q9]
   · simp [cd, dd, ren, rows, q9, ab.cs]
 simp -implicitDefEqProofs -dsimp only [go_sem]
 refine bc.split (fun h1 => ?_) (fun h1 => ?_)
 · simp -implicitDefEqProofs -dsimp only [go_sem, h1]
   have hi' : i < w.Posts.length := by simpa using h1
   have h5 := ay.csl w.Posts[i]
   have hr := bu ay.csl hi'
   have hul := xq w.Posts i
   (repeat ((repeat1' (first | simp -implicitDefEqProofs -dsimp only [go_sem, hr, ay.cs] | simp -dsimp (disch := omega) only [wrap_i64])); repeat (with_reducible refine ah ?_)))
   refine bc.split (fun h6 => ?_) (fun h6 => ?_) <;> simp -implicitDefEqProofs -dsimp only [go_sem, h6]
   · (repeat ((repeat1' (first | simp -implicitDefEqProofs -dsimp only [go_sem, hr, ay.cs, ab.cs, aw, Nat.mul_one, a8] | simp -dsimp (disch := omega) only [wrap_i64])); repeat (with_reducible refine ah ?_)))
     refine ⟨i + 1, hi', ?_, by omega⟩
     refine bt.cut (2) (by simp) (by simp) ?_ ?_
     · rw [lg hi', h6]
       simp [LeC, LeV, ren, br]
     · rw [lg hi', h6, if_pos rfl, ← eg]
       simp [cd, dd, ae, cz, ren, IntS.cs, ab.cs]
   · try (repeat1' (first | simp -implicitDefEqProofs -dsimp only [go_sem] | simp -dsimp (disch := omega) only [wrap_i64]))
     refine ⟨i + 1, hi', ?_, by omega⟩
     refine bt.cut (2) (by simp) (by simp) ?_ ?_
     · rw [lg hi', h6]
       simp [LeC, LeV, ren, br]
     · rw [lg hi', h6]
       simp [cd, dd, ae, ren, ab.cs]
 · simp -implicitDefEqProofs -dsimp only [go_sem, h1]
   have hi' : i = w.Posts.length := by simp at h1; omega
   subst hi'
   refine aj.pick [1] (by decide) (fun j hj => by omega) (.inl ?_) ?_
   · first | rfl | (simp [ren, bf, posOf]; done)
   · simp only [bb, List.map_cons, List.map_nil, bj, List.getElem?_cons_zero, List.getElem?_cons_succ, ae]
theorem ahg (w : ab) (hp : w.Posts.length ≤ 16777216) (hs : w.Shocks.length ≤ 16777216) : Ctr Tryz.prog 205 [w.v] [] (tz 1 (upR w)) (nr IntS.cs (upR w)) := by
 refine Ctr.intro Tryz.mixed Tryz.func205 rfl Tryz.av5 ?_
 simp -implicitDefEqProofs -dsimp only [go_sem, Tryz.ntmps205, Tryz.results205]
 simp -implicitDefEqProofs -dsimp only [go_sem, ab.v]
 cases h : wB w with
 | false =>
  have e : upR w = none := if_neg (by simp [h])
  rw [e]
  repeat' (first | exact aj.refl _ _ _ | (refine aj.au ?_ (by rfl); first | rfl | (simp [h, tz, nr, *]; done)) | ((have ct := dj w (by omega) (by omega); (first | refine al.at ct ⟨leA, trivial⟩ ?_ | refine ak.at ct ⟨leA, trivial⟩ ?_); clear ct); simp -implicitDefEqProofs -dsimp only [go_sem, h, tz, nr, *]) | (refine ax.bq (fun _ => ?_) (fun _ => ?_) <;> simp -implicitDefEqProofs -dsimp only [go_sem, h, tz, nr, *]) | (refine ax.ch (fun _ => ?_) (fun _ => ?_) <;> simp -implicitDefEqProofs -dsimp only [go_sem, h, tz, nr, *]) | (refine bc.split (fun _ => ?_) (fun _ => ?_) <;> simp -implicitDefEqProofs -dsimp only [go_sem, h, tz, nr, *]) | (exfalso; simp_all; done))
 | true =>
  have e : upR w = some (q9 w.Posts w.Posts.length) := if_pos h
  rw [e]
  repeat (first | ((have ct := dj w (by omega) (by omega); (first | refine al.at ct ⟨leA, trivial⟩ ?_ | refine ak.at ct ⟨leA, trivial⟩ ?_); clear ct); simp -implicitDefEqProofs -dsimp only [go_sem, h]) | ((first | refine al.at (sr w hp) ⟨leA, trivial⟩ ?_ | refine ak.at (sr w hp) ⟨leA, trivial⟩ ?_); simp -implicitDefEqProofs -dsimp only [go_sem, h]) | (with_reducible refine And.intro (by first | omega | (show bo _ = true; kernel_rfl)) ?_; try (repeat1' (first | simp -implicitDefEqProofs -dsimp only [go_sem, h] | simp -dsimp (disch := omega) only [wrap_i64]))))
  simp only [tz, nr]
  refine aj.pick [1] (by decide) (fun j hj => by omega) (.inl ?_) ?_
  · first | rfl | (simp [ren, bf, posOf]; done)
  · simp only [bb, List.map_cons, List.map_nil, bj, List.getElem?_cons_zero, List.getElem?_cons_succ, ae]
theorem aho (w : ab) (hp : w.Posts.length ≤ 16777216) (hs : w.Shocks.length ≤ 16777216) : Ctr Tryz.prog 253 [w.v] [] (aar 1 (upR w)) (va IntS.cs (upR w)) := by
 refine Ctr.intro Tryz.mixed Tryz.func253 rfl Tryz.ayi ?_
 simp -implicitDefEqProofs -dsimp only [go_sem, Tryz.ntmps253, Tryz.results253]
 simp -implicitDefEqProofs -dsimp only [go_sem, ab.v]
 cases h : wB w with
 | false =>
  have e : upR w = none := if_neg (by simp [h])
  rw [e]
  repeat (first | ((have ct := du w (by omega) (by omega); (first | refine al.at ct ⟨leA, trivial⟩ ?_ | refine ak.at ct ⟨leA, trivial⟩ ?_); clear ct); simp -implicitDefEqProofs -dsimp only [go_sem, h]) | (with_reducible refine And.intro (by first | omega | (show bo _ = true; kernel_rfl)) ?_; try (repeat1' (first | simp -implicitDefEqProofs -dsimp only [go_sem, h] | simp -dsimp (disch := omega) only [wrap_i64]))))
  simp only [aar, va]
  refine aj.pick [1] (by decide) (fun j hj => by omega) (.inl ?_) ?_
  · first | rfl | (simp [ren, bf, posOf]; done)
  · simp only [bb, List.map_cons, List.map_nil, bj, List.getElem?_cons_zero, List.getElem?_cons_succ, ae]
 | true =>
  have e : upR w = some (q9 w.Posts w.Posts.length) := if_pos h
  rw [e]
  repeat (first | ((have ct := du w (by omega) (by omega); (first | refine al.at ct ⟨leA, trivial⟩ ?_ | refine ak.at ct ⟨leA, trivial⟩ ?_); clear ct); simp -implicitDefEqProofs -dsimp only [go_sem, h]) | (with_reducible refine And.intro (by first | omega | (show bo _ = true; kernel_rfl)) ?_; try (repeat1' (first | simp -implicitDefEqProofs -dsimp only [go_sem, h] | simp -dsimp (disch := omega) only [wrap_i64]))))
  refine de.intro (fun i : Nat => i ≤ w.Posts.length) (fun i => ⟨[.undef, .ptr 0 0, .undef, .undef, .osl 1 0 (q9 w.Posts i).length 1, .int .i64 i, .undef, .undef, .undef, .undef, .undef, .undef, .undef, .undef, .undef, .undef, .undef, .undef, .undef, .undef, .undef, .undef, .undef, .undef, .undef, .undef, .undef, .undef, .undef, .undef, .undef, .undef, .undef, .undef], [some w.cs, some (rows IntS.cs (q9 w.Posts i))], 0⟩) (fun i => w.Posts.length - i) 0 (Nat.zero_le _) ?_ (fun i hi => ?_)
  · refine bt.cut (2) (by simp) (by simp) ?_ ?_
    · simp [LeC, LeV, ren, br, q9]
    · simp [cd, dd, ren, rows, q9, ab.cs]
  simp -implicitDefEqProofs -dsimp only [go_sem, ab.cs]
  refine bc.split (fun h1 => ?_) (fun h1 => ?_)
  · simp -implicitDefEqProofs -dsimp only [go_sem, h1]
    have hi' : i < w.Posts.length := by simpa using h1
    have h5 := ay.csl w.Posts[i]
    have hr := bu ay.csl hi'
    have hul := xq w.Posts i
    (repeat ((repeat1' (first | simp -implicitDefEqProofs -dsimp only [go_sem, hr, ay.cs, ab.cs] | simp -dsimp (disch := omega) only [wrap_i64])); repeat (with_reducible refine ah ?_)))
    refine bc.split (fun h6 => ?_) (fun h6 => ?_) <;> simp -implicitDefEqProofs -dsimp only [go_sem, h6]
    · (repeat ((repeat1' (first | simp -implicitDefEqProofs -dsimp only [go_sem, hr, ay.cs, ab.cs, aw, Nat.mul_one, a8] | simp -dsimp (disch := omega) only [wrap_i64])); repeat (with_reducible refine ah ?_)))
      refine ⟨i + 1, hi', ?_, by omega⟩
      refine bt.cut (2) (by simp) (by simp) ?_ ?_
      · rw [lg hi', h6]
        simp [LeC, LeV, ren, br]
      · rw [lg hi', h6, if_pos rfl, ← eg]
        simp [cd, dd, ae, cz, ren, IntS.cs, ab.cs]
    · try (repeat1' (first | simp -implicitDefEqProofs -dsimp only [go_sem] | simp -dsimp (disch := omega) only [wrap_i64]))
      refine ⟨i + 1, hi', ?_, by omega⟩
      refine bt.cut (2) (by simp) (by simp) ?_ ?_
      · rw [lg hi', h6]
        simp [LeC, LeV, ren, br]
      · rw [lg hi', h6]
        simp [cd, dd, ae, ren, ab.cs]
  · simp -implicitDefEqProofs -dsimp only [go_sem, h1]
    have hi' : i = w.Posts.length := by simp at h1; omega
    subst hi'
    simp only [aar, va]
    refine aj.pick [1] (by decide) (fun j hj => by omega) (.inl ?_) ?_
    · first | rfl | (simp [ren, bf, posOf]; done)
    · simp only [bb, List.map_cons, List.map_nil, bj, List.getElem?_cons_zero, List.getElem?_cons_succ, ae]
def cm (L : List ai) : List Int := L.foldl (fun C x => bump C x.State.toNat) [0, 0, 0, 0]
theorem na {L : List ai} {i : Nat} (hi : i < L.length) : cm (L.take (i + 1)) = bump (cm (L.take i)) L[i].State.toNat := by
 rw [List.take_succ_eq_append_getElem hi, cm, List.foldl_append]; rfl
theorem gu {L : List ai} : ∀ i, i ≤ L.length → (cm (L.take i)).length = 4
 | 0, _ => by simp [cm]
 | i + 1, hi => by rw [na (by omega : i < L.length), amx, gu i (by omega)]
theorem qj {L : List ai} : ∀ i, i ≤ L.length → ∀ x ∈ cm (L.take i), 0 ≤ x ∧ x ≤ i
 | 0, _ => by intro x hx; simp [cm] at hx; omega
 | i + 1, hi => by
  intro x hx
  rw [na (by omega : i < L.length), bump] at hx
  have ih := qj (L := L) i (by omega)
  rcases List.mem_or_eq_of_mem_set hx with h | h
  · have := ih x h; omega
  · subst h
    rw [List.getD_eq_getElem?_getD]
    cases h : (cm (L.take i))[(L[i]'(by omega)).State.toNat]? with
    | none => simp; omega
    | some y => have := ih y (List.mem_of_getElem? h); simp; omega
def ou (w : ab) : Option (List Int) := if wB w = true then some (cm w.Shocks) else none
theorem aae (w : ab) (hp : w.Posts.length ≤ 16777216) (hs : w.Shocks.length ≤ 16777216) : Ctr Tryz.prog 207 [w.v] [] (tz 1 (ou w)) (nr IntS.cs (ou w)) := by
 refine Ctr.intro Tryz.mixed Tryz.func207 rfl Tryz.aw7 ?_
 simp -implicitDefEqProofs -dsimp only [go_sem, Tryz.ntmps207, Tryz.results207]
 simp -implicitDefEqProofs -dsimp only [go_sem, ab.v]
 cases h : wB w with
 | false =>
  have e : ou w = none := if_neg (by simp [h])
  rw [e]
  repeat' (first | exact aj.refl _ _ _ | (refine aj.au ?_ (by rfl); first | rfl | (simp [h, tz, nr, *]; done)) | ((have ct := dj w (by omega) (by omega); (first | refine al.at ct ⟨leA, trivial⟩ ?_ | refine ak.at ct ⟨leA, trivial⟩ ?_); clear ct); simp -implicitDefEqProofs -dsimp only [go_sem, h, tz, nr, *]) | (refine ax.bq (fun _ => ?_) (fun _ => ?_) <;> simp -implicitDefEqProofs -dsimp only [go_sem, h, tz, nr, *]) | (refine ax.ch (fun _ => ?_) (fun _ => ?_) <;> simp -implicitDefEqProofs -dsimp only [go_sem, h, tz, nr, *]) | (refine bc.split (fun _ => ?_) (fun _ => ?_) <;> simp -implicitDefEqProofs -dsimp only [go_sem, h, tz, nr, *]) | (exfalso; simp_all; done))
 | true =>
  have e : ou w = some (cm w.Shocks) := if_pos h
  rw [e]
  repeat (first | ((have ct := dj w (by omega) (by omega); (first | refine al.at ct ⟨leA, trivial⟩ ?_ | refine ak.at ct ⟨leA, trivial⟩ ?_); clear ct); simp -implicitDefEqProofs -dsimp only [go_sem, h]) | (with_reducible refine And.intro (by first | omega | (show bo _ = true; kernel_rfl)) ?_; try (repeat1' (first | simp -implicitDefEqProofs -dsimp only [go_sem, h] | simp -dsimp (disch := omega) only [wrap_i64]))))
  have hz : ma 4 [V.int .i64 0] = rows IntS.cs [0, 0, 0, 0] := rfl
  (repeat ((repeat1' (first | simp -implicitDefEqProofs -dsimp only [go_sem, hz] | simp -dsimp (disch := omega) only [wrap_i64])); repeat (with_reducible refine ah ?_)))
  refine de.intro (fun i : Nat => i ≤ w.Shocks.length) (fun i => ⟨[.undef, .undef, .undef, .undef, .osl 1 0 4 1, .undef, .undef, .undef, .undef, .undef, .undef, .undef, ai.sl w.Shocks, .int .i64 w.Shocks.length, .int .i64 i, .undef, .undef, .undef, .undef, .undef, .undef, .undef, .undef, .undef, .undef, .undef, .undef], [some w.cs, some (rows IntS.cs (cm (w.Shocks.take i)))], 0⟩) (fun i => w.Shocks.length - i) 0 (Nat.zero_le _) ?_ (fun i hi => ?_)
  · refine bt.cut (2) (by simp) (by simp) ?_ ?_
    · simp [LeC, LeV, ren, br]
    · simp [cd, dd, ren, ae, cm, ab.cs]
  simp -implicitDefEqProofs -dsimp only [go_sem]
  refine bc.split (fun h1 => ?_) (fun h1 => ?_)
  · simp -implicitDefEqProofs -dsimp only [go_sem, h1]
    have hi' : i < w.Shocks.length := by simpa using h1
    have h5 := ai.csl w.Shocks[i]
    have hr := bu ai.csl hi'
    have hvi := gj.1 ((dt h).shocks _ (List.getElem_mem hi'))
    obtain ⟨k, hk⟩ : ∃ k : Nat, w.Shocks[i].State = (k : Int) := ⟨w.Shocks[i].State.toNat, by omega⟩
    have hkc : k < (cm (w.Shocks.take i)).length := by rw [gu i hi]; omega
    have hrc := bu IntS.csl hkc
    have hbd := qj i hi _ (List.getElem_mem hkc)
    have hsp := mi IntS.csl hkc ((cm (w.Shocks.take i))[k] + 1)
    have hlc : (rows IntS.cs (cm (w.Shocks.take i))).length = 4 := by rw [aw, gu i hi]
    (repeat ((repeat1' (first | simp -implicitDefEqProofs -dsimp only [go_sem, hr, hk, hrc, IntS.cs, ai.cs, hlc, ab.cs] | simp -dsimp (disch := omega) only [wrap_i64])); repeat (with_reducible refine ah ?_)))
    have e2 : cm (w.Shocks.take (i + 1)) = (cm (w.Shocks.take i)).set k ((cm (w.Shocks.take i))[k] + 1) := by
     rw [na hi', hk, Int.toNat_natCast, bump, List.getD_eq_getElem?_getD, List.getElem?_eq_getElem hkc]; rfl
    simp only [IntS.cs] at hsp
    refine ⟨i + 1, hi', ?_, by omega⟩
    refine bt.cut (2) (by simp) (by simp) ?_ ?_
    · simp [LeC, LeV, ren, br]
    · rw [hsp, e2]
      simp [cd, dd, ae, ren, ab.cs]
  · simp -implicitDefEqProofs -dsimp only [go_sem, h1]
    have hi' : i = w.Shocks.length := by simp at h1; omega
    subst hi'
    rw [List.take_length]
    have hc := gu (L := w.Shocks) w.Shocks.length (Nat.le_refl _)
    rw [List.take_length] at hc
    simp only [tz, nr, hc]
    refine aj.pick [1] (by decide) (fun j hj => by omega) (.inl ?_) ?_
    · first | rfl | (simp [ren, bf, posOf]; done)
    · simp only [bb, List.map_cons, List.map_nil, bj, List.getElem?_cons_zero, List.getElem?_cons_succ, ae]
theorem aaf (w : ab) (hp : w.Posts.length ≤ 16777216) (hs : w.Shocks.length ≤ 16777216) : Ctr Tryz.prog 216 [w.v] [] (aar 1 (ou w)) (va IntS.cs (ou w)) := by
 refine Ctr.intro Tryz.mixed Tryz.func216 rfl Tryz.avj ?_
 simp -implicitDefEqProofs -dsimp only [go_sem, Tryz.ntmps216, Tryz.results216]
 simp -implicitDefEqProofs -dsimp only [go_sem, ab.v]
 cases h : wB w with
 | false =>
  have e : ou w = none := if_neg (by simp [h])
  rw [e]
  repeat (first | ((have ct := du w (by omega) (by omega); (first | refine al.at ct ⟨leA, trivial⟩ ?_ | refine ak.at ct ⟨leA, trivial⟩ ?_); clear ct); simp -implicitDefEqProofs -dsimp only [go_sem, h]) | (with_reducible refine And.intro (by first | omega | (show bo _ = true; kernel_rfl)) ?_; try (repeat1' (first | simp -implicitDefEqProofs -dsimp only [go_sem, h] | simp -dsimp (disch := omega) only [wrap_i64]))))
  simp only [aar, va]
  refine aj.pick [1] (by decide) (fun j hj => by omega) (.inl ?_) ?_
  · first | rfl | (simp [ren, bf, posOf]; done)
  · simp only [bb, List.map_cons, List.map_nil, bj, List.getElem?_cons_zero, List.getElem?_cons_succ, ae]
 | true =>
  have e : ou w = some (cm w.Shocks) := if_pos h
  rw [e]
  repeat (first | ((have ct := du w (by omega) (by omega); (first | refine al.at ct ⟨leA, trivial⟩ ?_ | refine ak.at ct ⟨leA, trivial⟩ ?_); clear ct); simp -implicitDefEqProofs -dsimp only [go_sem, h]) | (with_reducible refine And.intro (by first | omega | (show bo _ = true; kernel_rfl)) ?_; try (repeat1' (first | simp -implicitDefEqProofs -dsimp only [go_sem, h] | simp -dsimp (disch := omega) only [wrap_i64]))))
  have hz : ma 4 [V.int .i64 0] = rows IntS.cs [0, 0, 0, 0] := rfl
  (repeat ((repeat1' (first | simp -implicitDefEqProofs -dsimp only [go_sem, hz] | simp -dsimp (disch := omega) only [wrap_i64])); repeat (with_reducible refine ah ?_)))
  refine de.intro (fun i : Nat => i ≤ w.Shocks.length) (fun i => ⟨[.undef, .ptr 0 0, .undef, .undef, .osl 1 0 4 1, .int .i64 i, .undef, .undef, .undef, .undef, .undef, .undef, .undef, .undef, .undef, .undef, .undef, .undef, .undef, .undef, .undef, .undef, .undef, .undef, .undef, .undef, .undef, .undef, .undef, .undef, .undef, .undef, .undef, .undef], [some w.cs, some (rows IntS.cs (cm (w.Shocks.take i)))], 0⟩) (fun i => w.Shocks.length - i) 0 (Nat.zero_le _) ?_ (fun i hi => ?_)
  · refine bt.cut (2) (by simp) (by simp) ?_ ?_
    · simp [LeC, LeV, ren, br]
    · simp [cd, dd, ren, ae, cm, ab.cs]
  simp -implicitDefEqProofs -dsimp only [go_sem, ab.cs]
  refine bc.split (fun h1 => ?_) (fun h1 => ?_)
  · simp -implicitDefEqProofs -dsimp only [go_sem, h1]
    have hi' : i < w.Shocks.length := by simpa using h1
    have h5 := ai.csl w.Shocks[i]
    have hr := bu ai.csl hi'
    have hvi := gj.1 ((dt h).shocks _ (List.getElem_mem hi'))
    obtain ⟨k, hk⟩ : ∃ k : Nat, w.Shocks[i].State = (k : Int) := ⟨w.Shocks[i].State.toNat, by omega⟩
    have hkc : k < (cm (w.Shocks.take i)).length := by rw [gu i hi]; omega
    have hrc := bu IntS.csl hkc
    have hbd := qj i hi _ (List.getElem_mem hkc)
    have hsp := mi IntS.csl hkc ((cm (w.Shocks.take i))[k] + 1)
    have hlc : (rows IntS.cs (cm (w.Shocks.take i))).length = 4 := by rw [aw, gu i hi]
    (repeat ((repeat1' (first | simp -implicitDefEqProofs -dsimp only [go_sem, hr, hk, hrc, IntS.cs, ai.cs, hlc, ab.cs] | simp -dsimp (disch := omega) only [wrap_i64])); repeat (with_reducible refine ah ?_)))
    have e2 : cm (w.Shocks.take (i + 1)) = (cm (w.Shocks.take i)).set k ((cm (w.Shocks.take i))[k] + 1) := by
     rw [na hi', hk, Int.toNat_natCast, bump, List.getD_eq_getElem?_getD, List.getElem?_eq_getElem hkc]; rfl
    simp only [IntS.cs] at hsp
    refine ⟨i + 1, hi', ?_, by omega⟩
    refine bt.cut (2) (by simp) (by simp) ?_ ?_
    · simp [LeC, LeV, ren, br]
    · rw [hsp, e2]
      simp [cd, dd, ae, ren, ab.cs]
  · simp -implicitDefEqProofs -dsimp only [go_sem, h1]
    have hi' : i = w.Shocks.length := by simp at h1; omega
    subst hi'
    rw [List.take_length]
    have hc := gu (L := w.Shocks) w.Shocks.length (Nat.le_refl _)
    rw [List.take_length] at hc
    simp only [aar, va, hc]
    refine aj.pick [1] (by decide) (fun j hj => by omega) (.inl ?_) ?_
    · first | rfl | (simp [ren, bf, posOf]; done)
    · simp only [bb, List.map_cons, List.map_nil, bj, List.getElem?_cons_zero, List.getElem?_cons_succ, ae]
end Go.Proofs
end
section
set_option maxRecDepth 100000
set_option maxHeartbeats 1000000
namespace Go.Proofs
open Go.Lv
def ab.oc (r : ab) (i0 i1 : Nat) : List V := [.int .i64 r.Now, .osl i0 0 r.Posts.length 3, .osl i1 0 r.Shocks.length 5, .int .i64 r.Next, .int .i64 r.Archived]
theorem ac4 (L : List ay) (hl : L.length ≤ 16777216) : Ctr Tryz.prog 141 [ay.sl L] [] (.osl 0 0 L.length 3) [some (rows ay.cs L)] := by
 refine Ctr.intro Tryz.mixed Tryz.func141 rfl Tryz.avw ?_
 simp -implicitDefEqProofs -dsimp only [go_sem, Tryz.ntmps141, Tryz.results141]
 repeat (with_reducible refine ah ?_)
 exact aj.refl _ _ _
theorem ab1 (L : List ai) (hl : L.length ≤ 16777216) : Ctr Tryz.prog 142 [ai.sl L] [] (.osl 0 0 L.length 5) [some (rows ai.cs L)] := by
 refine Ctr.intro Tryz.mixed Tryz.func142 rfl Tryz.au6 ?_
 simp -implicitDefEqProofs -dsimp only [go_sem, Tryz.ntmps142, Tryz.results142]
 repeat (with_reducible refine ah ?_)
 exact aj.refl _ _ _
theorem c7 (w : ab) (hp : w.Posts.length ≤ 16777216) (hs : w.Shocks.length ≤ 16777216) : Ctr Tryz.prog 93 [w.v] [] (w.o 0 1) [some (rows ay.cs w.Posts), some (rows ai.cs w.Shocks)] := by
 refine Ctr.intro Tryz.mixed Tryz.func93 rfl Tryz.a6s ?_
 simp -implicitDefEqProofs -dsimp only [go_sem, Tryz.ntmps93, Tryz.results93]
 simp -implicitDefEqProofs -dsimp only [go_sem, ab.v]
 repeat (with_reducible refine ah ?_)
 (have ct := ac4 w.Posts hp; (first | refine al.at ct ⟨leA, trivial⟩ ?_ | refine ak.at ct ⟨leA, trivial⟩ ?_); clear ct)
 simp -implicitDefEqProofs -dsimp only [go_sem]
 repeat (with_reducible refine ah ?_)
 (have ct := ab1 w.Shocks hs; (first | refine al.at ct ⟨leA, trivial⟩ ?_ | refine ak.at ct ⟨leA, trivial⟩ ?_); clear ct)
 simp -implicitDefEqProofs -dsimp only [go_sem]
 repeat (with_reducible refine ah ?_)
 refine aj.pick [2, 3] (by decide) (fun j hj => by omega) (.inl ?_) ?_
 · first | rfl | (simp [ren, bf, posOf, ab.o]; done)
 · simp only [bb, List.map_cons, List.map_nil, bj, List.getElem?_cons_zero, List.getElem?_cons_succ, ae]
theorem amf {L : List ai} {i : Nat} (hi : i < L.length) (s : Int) : ck (rows ai.cs L) (i * 5 + 1) [.int .i64 s] = rows ai.cs (L.set i ⟨L[i].Number, s, L[i].Seen, L[i].Size, L[i].Tick⟩) := qf ai.csl hi (by omega) rfl
theorem arn {L : List ai} {i : Nat} (hi : i < L.length) (x : ai) (z : Int) : ck (rows ai.cs (L.set i x)) (i * 5 + 3) [.int .i64 z] = rows ai.cs (L.set i ⟨x.Number, x.State, x.Seen, z, x.Tick⟩) := by
 have h := qf (cs := ai.cs) ai.csl (L := L.set i x) (j := i) (f := 3) (v := .int .i64 z) (x := ⟨x.Number, x.State, x.Seen, z, x.Tick⟩) (by simpa using hi) (by omega) (by simp; rfl)
 rwa [List.set_set] at h
theorem fm (L : List ai) : (rows ai.cs L).length = L.length * 5 := jk ai.csl L
theorem alf (w : ab) (i : Nat) (k n v : Int) (hk : k = 5 ∨ k = 6 ∨ k = 7) (hw : wB w = true) (hi : i < w.Shocks.length) (hv : -100 ≤ v ∧ v ≤ 100) : Ctr Tryz.prog 272 [.ptr 0 0, .int .i64 i, .agg [.int .i64 k, .int .i64 n, .int .i64 v]] [some (w.oc 1 2), some (rows ay.cs w.Posts), some (rows ai.cs w.Shocks)] (.bool (yf w.Shocks[i] k)) [some (w.oc 1 2), some (rows ay.cs w.Posts), some (rows ai.cs (w.Shocks.set i (uo w.Shocks[i] k v)))] := by
 have W := dt hw
 have hx := W.shocks _ (List.getElem_mem hi)
 have hb := gj.1 hx
 have hr := bu ai.csl hi
 have hwv : IntKind.i64.wrap (w.Shocks[i].Size + v) = w.Shocks[i].Size + v := wrap_i64 (by omega) (by omega)
 have s1 := amf hi
 have s2 := arn hi
 have hl : ∀ x, (w.Shocks.set i x).length = w.Shocks.length := fun x => by simp
 have hroom : i * 5 + 5 ≤ w.Shocks.length * 5 := by omega
 rcases hk with rfl | rfl | rfl
 · skip
   refine Ctr.intro Tryz.mixed Tryz.func272 rfl Tryz.afr ?_
   simp -implicitDefEqProofs -dsimp only [go_sem, Tryz.ntmps272, Tryz.results272]
   (repeat ((repeat1' (first | simp -implicitDefEqProofs -dsimp only [go_sem, ab.oc, hr, ai.cs, hwv] | simp -dsimp (disch := omega) only [wrap_i64])); repeat (with_reducible refine ah ?_)))
   refine n8.path [true, true, true, true, true, true, false, false, false, false] [false, true, true, true, false, false, false, false, false, false] 1 [2] (by kernel_rfl) ?_
   (repeat ((repeat1' (first | simp -implicitDefEqProofs -dsimp only [go_sem, hr, ai.cs, hwv, s1, s2, fm, hl] | simp -dsimp (disch := omega) only [wrap_i64])); repeat (with_reducible refine ah ?_)))
   repeat' (first | (refine ax.bq (fun _ => ?_) (fun _ => ?_) <;> (repeat ((repeat1' (first | simp -implicitDefEqProofs -dsimp only [go_sem, *] | simp -dsimp (disch := omega) only [wrap_i64])); repeat (with_reducible refine ah ?_)))) | (refine ax.ch (fun _ => ?_) (fun _ => ?_) <;> (repeat ((repeat1' (first | simp -implicitDefEqProofs -dsimp only [go_sem, *] | simp -dsimp (disch := omega) only [wrap_i64])); repeat (with_reducible refine ah ?_)))))
   all_goals
    refine aj.pick [0, 1, 2] (by decide) (fun j hj => by have hj' : j = 0 ∨ j = 1 ∨ j = 2 := (by omega); rcases hj' with rfl | rfl | rfl <;> rfl) (.inl (by first | rfl | (simp [ren, yf, *]; done))) ?_
    simp [bb, bj, ren, bf, posOf, ae, ab.oc, uo, *]
 · skip
   refine Ctr.intro Tryz.mixed Tryz.func272 rfl Tryz.afr ?_
   simp -implicitDefEqProofs -dsimp only [go_sem, Tryz.ntmps272, Tryz.results272]
   (repeat ((repeat1' (first | simp -implicitDefEqProofs -dsimp only [go_sem, ab.oc, hr, ai.cs, hwv] | simp -dsimp (disch := omega) only [wrap_i64])); repeat (with_reducible refine ah ?_)))
   refine n8.path [true, true, true, true, true, true, true, true, true, false, false, false, false] [false, true, true, true, true, true, true, false, false, false, false, false, false] 1 [2] (by kernel_rfl) ?_
   (repeat ((repeat1' (first | simp -implicitDefEqProofs -dsimp only [go_sem, hr, ai.cs, hwv, s1, s2, fm, hl] | simp -dsimp (disch := omega) only [wrap_i64])); repeat (with_reducible refine ah ?_)))
   repeat' (first | (refine ax.bq (fun _ => ?_) (fun _ => ?_) <;> (repeat ((repeat1' (first | simp -implicitDefEqProofs -dsimp only [go_sem, *] | simp -dsimp (disch := omega) only [wrap_i64])); repeat (with_reducible refine ah ?_)))) | (refine ax.ch (fun _ => ?_) (fun _ => ?_) <;> (repeat ((repeat1' (first | simp -implicitDefEqProofs -dsimp only [go_sem, *] | simp -dsimp (disch := omega) only [wrap_i64])); repeat (with_reducible refine ah ?_)))))
   all_goals
    refine aj.pick [0, 1, 2] (by decide) (fun j hj => by have hj' : j = 0 ∨ j = 1 ∨ j = 2 := (by omega); rcases hj' with rfl | rfl | rfl <;> rfl) (.inl (by first | rfl | (simp [ren, yf, *]; done))) ?_
    simp [bb, bj, ren, bf, posOf, ae, ab.oc, uo, *]
 · skip
   refine Ctr.intro Tryz.mixed Tryz.func272 rfl Tryz.afr ?_
   simp -implicitDefEqProofs -dsimp only [go_sem, Tryz.ntmps272, Tryz.results272]
   (repeat ((repeat1' (first | simp -implicitDefEqProofs -dsimp only [go_sem, ab.oc, hr, ai.cs, hwv, s1, fm, hl] | simp -dsimp (disch := omega) only [wrap_i64])); repeat (with_reducible refine ah ?_)))
   repeat' (first | (refine ax.bq (fun _ => ?_) (fun _ => ?_) <;> (repeat ((repeat1' (first | simp -implicitDefEqProofs -dsimp only [go_sem, *] | simp -dsimp (disch := omega) only [wrap_i64])); repeat (with_reducible refine ah ?_)))) | (refine ax.ch (fun _ => ?_) (fun _ => ?_) <;> (repeat ((repeat1' (first | simp -implicitDefEqProofs -dsimp only [go_sem, *] | simp -dsimp (disch := omega) only [wrap_i64])); repeat (with_reducible refine ah ?_)))))
   all_goals
    refine aj.pick [0, 1, 2] (by decide) (fun j hj => by have hj' : j = 0 ∨ j = 1 ∨ j = 2 := (by omega); rcases hj' with rfl | rfl | rfl <;> rfl) (.inl (by first | rfl | (simp [ren, yf, *]; done))) ?_
    simp [bb, bj, ren, bf, posOf, ae, ab.oc, uo, *]
end Go.Proofs
end
