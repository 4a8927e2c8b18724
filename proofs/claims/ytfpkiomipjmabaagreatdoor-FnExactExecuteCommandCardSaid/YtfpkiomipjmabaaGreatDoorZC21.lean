/-
  A part of the proof: texts put together by a program of the prover. Conditions: none.
-/
import Derived.Test.YtfpkiomipjmabaaGreatDoorZC9
import Derived.Test.YtfpkiomipjmabaaGreatDoorZC20
set_option linter.unusedSimpArgs false
set_option linter.unusedVariables false
section
set_option maxRecDepth 100000
set_option maxHeartbeats 4000000
namespace Go.Proofs
open Go.Lv
theorem au {x y : V} (h : LeV x y := by first | exact leA | exact ai.le rfl rfl) : LeV x y := h
theorem xx {α β : Type} {cs : α → List V} {ds : β → List V} {w u : Nat} [nf cs w] [nf ds u] {L L' : List α} {M M' : List β} (h : L.length = L'.length) (h' : M.length = M'.length) : grown [some (rows cs L), some (rows ds M)] [some (rows cs L'), some (rows ds M')] :=
 ⟨(jh (cs := cs) h).1, jh (cs := ds) h'⟩
theorem tz (c : ai) (kk : Int) (hl0 : c.ab.Posts.length ≤ 16777216) (hl1 : c.ab.Shocks.length ≤ 16777216) (hk : 0 ≤ kk) (hk2 : kk ≤ 16777216) : Ctr Tryz.prog 48 [c.o 0 1, .int .i64 kk] [some (rows az.cs c.ab.Posts), some (rows an.cs c.ab.Shocks)] (.int .i64 (kk + 3 * (c.ab.Posts.length : Int) + 5 * (c.ab.Shocks.length : Int))) [some (rows az.cs (az.marks kk c.ab.Posts.length)), some (rows an.cs (an.marks (kk + 3 * (c.ab.Posts.length : Int)) c.ab.Shocks.length))] := by
 refine Ctr.intro Tryz.mixed Tryz.func48 rfl Tryz.avq ?_
 simp -implicitDefEqProofs -dsimp only [go_sem, Tryz.ntmps48, Tryz.results48]
 (repeat ((repeat1' (first | simp -implicitDefEqProofs -dsimp only [go_sem, ai.o] | simp -dsimp (disch := omega) only [wrap_i64])); repeat (with_reducible refine ah ?_)))
 refine aj.qb [0, 1] false ( y7 c.ab kk hl0 hl1 hk hk2) (by decide) ⟨leO, leO, trivial⟩ rr ( xx (by simp) (by simp)) (.inl rfl) ?_
 (repeat ((repeat1' (first | simp -implicitDefEqProofs -dsimp only [go_sem] | simp -dsimp (disch := omega) only [wrap_i64])); repeat (with_reducible refine ah ?_)))
 refine al.pick [0, 1] (by decide) (by decide) (.inl rfl) ?_
 simp only [bc, List.map_cons, List.map_nil, bh, List.getElem?_cons_zero, List.getElem?_cons_succ, ae]
theorem age (n x c a : Int) (s t : ByteArray) (n0 n1 : Nat) (kk : Int) (h0 : n0 ≤ 16777216) (h1 : n1 ≤ 16777216) (hk : 0 ≤ kk) (hk2 : kk ≤ 16777216) : Ctr Tryz.prog 49 [.agg [.int .i64 n, .sl n0 3 (rows az.cs (az.marks kk n0)), .sl n1 5 (rows an.cs (an.marks (kk + 3 * (n0 : Int)) n1)), .int .i64 x, .int .i64 a, .str s, .str t, .int .i64 c], .int .i64 kk] [] (.int .i64 (kk + 3 * (n0 : Int) + 5 * (n1 : Int))) [] := by
 refine Ctr.intro Tryz.mixed Tryz.func49 rfl Tryz.a5e ?_
 simp -implicitDefEqProofs -dsimp only [go_sem, Tryz.ntmps49, Tryz.results49]
 (have ct := ahh ⟨n, [], [], x, a⟩ n0 n1 kk h0 h1 hk hk2; (first | refine ak.at ct ⟨au, au, trivial⟩ ?_ | refine aj.at ct ⟨au, au, trivial⟩ ?_); clear ct)
 simp -implicitDefEqProofs -dsimp only [go_sem]
 refine bd.split (fun hh => absurd hh (by simp; omega)) (fun hh => ?_)
 simp -implicitDefEqProofs -dsimp only [go_sem, hh]
 exact al.ax rfl (by rfl)
def aix : V := .tup [.agg [.int .i64 0, .nilsl, .nilsl, .int .i64 0, .int .i64 0, .str ByteArray.empty, .str ByteArray.empty, .int .i64 0], .bool false]
theorem am1 (c : ai) (line : ByteArray) (h0 : c.ab.Posts.length ≤ 1048576) (h1 : c.ab.Shocks.length ≤ 1048576) : (dj c line).1.ab.Posts.length ≤ 1048576 ∧ (dj c line).1.ab.Shocks.length ≤ 1048576 := by
 unfold dj
 split
 · exact ⟨h0, h1⟩
 · rename_i hb
   split
   · exact ⟨h0, h1⟩
   · split
     · exact ⟨h0, h1⟩
     · have W := dt (ab6 (line := line) (r8 (c := c) (by simpa using hb)).1)
       have := W.plen
       have := W.slen
       dsimp only
       exact ⟨by omega, by omega⟩
theorem wk (c : ai) (line : ByteArray) (hc : c.ok) (hln : agl line) : Ctr Tryz.prog 7 [c.v, .str line] [] (.bool true) [] := by
 obtain ⟨z, hz, hcz⟩ := x8 c hc 1048576 (by omega) (by omega)
 refine Ctr.intro Tryz.mixed Tryz.func7 rfl Tryz.okF7 ?_
 simp -implicitDefEqProofs -dsimp only [go_sem, Tryz.ntmps7, Tryz.results7]
 (repeat ((repeat1' (first | simp -implicitDefEqProofs -dsimp only [go_sem, ai.v] | simp -dsimp (disch := omega) only [wrap_i64])); repeat (with_reducible refine ah ?_)))
 refine bd.split (fun h0 => ?_) (fun h0 => ?_) <;> (repeat ((repeat1' (first | simp -implicitDefEqProofs -dsimp only [go_sem, h0] | simp -dsimp (disch := omega) only [wrap_i64])); repeat (with_reducible refine ah ?_)))
 · exact al.ax rfl rfl
 have hl : line.size ≤ 1048576 := by have := of_decide_eq_false h0; omega
 clear h0
 (first | refine ak.at (hcz) ⟨au, au, trivial⟩ ?_ | refine aj.at (hcz) ⟨au, au, trivial⟩ ?_)
 simp -implicitDefEqProofs -dsimp only [go_sem]
 refine bd.split (fun h1 => ?_) (fun h1 => ?_) <;> simp -implicitDefEqProofs -dsimp only [go_sem, h1]
 · exact al.ax rfl rfl
 obtain ⟨_, _, hp, hs, hd, hpe⟩ : 0 ≤ z ∧ z ≤ 1048576 ∧ c.ab.Posts.length ≤ 1048576 ∧ c.ab.Shocks.length ≤ 1048576 ∧ c.Log.Durable.size ≤ 1048576 ∧ c.Log.Pending.size ≤ 1048576 := by
   simp at h1; rcases hz with hz | hz
   · omega
   · exact hz
 clear h1
 have hf : c.fits := ⟨hp, hs, by omega, by omega⟩
 have cs := ane c line hf (by omega)
 have ci := ajv c line hf (by omega)
 obtain ⟨l0, l1⟩ := am1 c line hp hs
 generalize dj c line = R at *
 obtain ⟨d, r⟩ := R
 dsimp only at cs ci l0 l1
 have hto := zf c hp hs
 have hE := ta c (by omega) (by omega)
 have he := ta d (by omega) (by omega)
 have hm0 := tz c 1 (by omega) (by omega) (by omega) (by omega)
 have hm := tz d 1 (by omega) (by omega) (by omega) (by omega)
 have hk0 : decide (1 + 3 * (c.ab.Posts.length : Int) + 5 * (c.ab.Shocks.length : Int) < 0) = false := decide_eq_false (by omega)
 have hk1 : decide (1 + 3 * (d.ab.Posts.length : Int) + 5 * (d.ab.Shocks.length : Int) < 0) = false := decide_eq_false (by omega)
 (first | refine ak.at (hto) ⟨au, trivial⟩ ?_ | refine aj.at (hto) ⟨au, trivial⟩ ?_)
 (repeat ((repeat1' (first | simp -implicitDefEqProofs -dsimp only [go_sem, ai.o] | simp -dsimp (disch := omega) only [wrap_i64])); repeat (with_reducible refine ah ?_)))
 (first | refine ak.at (cs) ⟨au, au, trivial⟩ ?_ | refine aj.at (cs) ⟨au, au, trivial⟩ ?_)
 (repeat ((repeat1' (first | simp -implicitDefEqProofs -dsimp only [go_sem, ai.o] | simp -dsimp (disch := omega) only [wrap_i64])); repeat (with_reducible refine ah ?_)))
 (first | refine ak.at (hto) ⟨au, trivial⟩ ?_ | refine aj.at (hto) ⟨au, trivial⟩ ?_)
 (repeat ((repeat1' (first | simp -implicitDefEqProofs -dsimp only [go_sem, ai.o] | simp -dsimp (disch := omega) only [wrap_i64])); repeat (with_reducible refine ah ?_)))
 (first | refine ak.at (ci) ⟨au, au, trivial⟩ ?_ | refine aj.at (ci) ⟨au, au, trivial⟩ ?_)
 (repeat ((repeat1' (first | simp -implicitDefEqProofs -dsimp only [go_sem, ai.o] | simp -dsimp (disch := omega) only [wrap_i64])); repeat (with_reducible refine ah ?_)))
 (first | refine ak.at (he) ⟨au, au, trivial⟩ ?_ | refine aj.at (he) ⟨au, au, trivial⟩ ?_)
 (repeat ((repeat1' (first | simp -implicitDefEqProofs -dsimp only [go_sem] | simp -dsimp (disch := omega) only [wrap_i64])); repeat (with_reducible refine ah ?_)))
 (first | refine ak.at (hto) ⟨au, trivial⟩ ?_ | refine aj.at (hto) ⟨au, trivial⟩ ?_)
 (repeat ((repeat1' (first | simp -implicitDefEqProofs -dsimp only [go_sem, ai.o] | simp -dsimp (disch := omega) only [wrap_i64])); repeat (with_reducible refine ah ?_)))
 (first | refine ak.at (hE) ⟨au, au, trivial⟩ ?_ | refine aj.at (hE) ⟨au, au, trivial⟩ ?_)
 (repeat ((repeat1' (first | simp -implicitDefEqProofs -dsimp only [go_sem] | simp -dsimp (disch := omega) only [wrap_i64])); repeat (with_reducible refine ah ?_)))
 have hq := age d.ab.Now d.ab.Next d.Log.Count d.ab.Archived d.Log.Durable d.Log.Pending d.ab.Posts.length d.ab.Shocks.length 1 (by omega) (by omega) (by omega) (by omega)
 refine aj.qb [6, 7] false ( hm0) (by decide) ⟨leO, leO, trivial⟩ rr ( xx (by simp) (by simp)) (.inl rfl) ?_
 (repeat ((repeat1' (first | simp -implicitDefEqProofs -dsimp only [go_sem, hk0] | simp -dsimp (disch := omega) only [wrap_i64])); repeat (with_reducible refine ah ?_)))
 (first | refine ak.at (he) ⟨au, au, trivial⟩ ?_ | refine aj.at (he) ⟨au, au, trivial⟩ ?_)
 (repeat ((repeat1' (first | simp -implicitDefEqProofs -dsimp only [go_sem] | simp -dsimp (disch := omega) only [wrap_i64])); repeat (with_reducible refine ah ?_)))
 refine aj.qb [9, 10] false ( hm) (by decide) ⟨leO, leO, trivial⟩ rr ( xx (by simp) (by simp)) (.inl rfl) ?_
 (repeat ((repeat1' (first | simp -implicitDefEqProofs -dsimp only [go_sem] | simp -dsimp (disch := omega) only [wrap_i64])); repeat (with_reducible refine ah ?_)))
 (first | refine ak.at (hq) ⟨au, au, trivial⟩ ?_ | refine aj.at (hq) ⟨au, au, trivial⟩ ?_)
 (repeat ((repeat1' (first | simp -implicitDefEqProofs -dsimp only [go_sem, hk1] | simp -dsimp (disch := omega) only [wrap_i64])); repeat (with_reducible refine ah ?_)))
 (first | refine ak.at (hto) ⟨au, trivial⟩ ?_ | refine aj.at (hto) ⟨au, trivial⟩ ?_)
 (repeat ((repeat1' (first | simp -implicitDefEqProofs -dsimp only [go_sem, ai.o] | simp -dsimp (disch := omega) only [wrap_i64])); repeat (with_reducible refine ah ?_)))
 (first | refine ak.at (ci) ⟨au, au, trivial⟩ ?_ | refine aj.at (ci) ⟨au, au, trivial⟩ ?_)
 (repeat ((repeat1' (first | simp -implicitDefEqProofs -dsimp only [go_sem, ai.o] | simp -dsimp (disch := omega) only [wrap_i64])); repeat (with_reducible refine ah ?_)))
 (first | refine ak.at (he) ⟨au, au, trivial⟩ ?_ | refine aj.at (he) ⟨au, au, trivial⟩ ?_)
 (repeat ((repeat1' (first | simp -implicitDefEqProofs -dsimp only [go_sem] | simp -dsimp (disch := omega) only [wrap_i64])); repeat (with_reducible refine ah ?_)))
 (first | refine ak.at (hq) ⟨au, au, trivial⟩ ?_ | refine aj.at (hq) ⟨au, au, trivial⟩ ?_)
 (repeat ((repeat1' (first | simp -implicitDefEqProofs -dsimp only [go_sem, hk1] | simp -dsimp (disch := omega) only [wrap_i64])); repeat (with_reducible refine ah ?_)))
 exact al.ax rfl (by rfl)
end Go.Proofs
end
