/-
  A part of the proof: texts put together by a program of the prover. Conditions: none.
-/
import Derived.Test.YtfpkiomipjmabaaGreatDoorZC9
import Derived.Test.YtfpkiomipjmabaaGreatDoorZC14
import Derived.Test.YtfpkiomipjmabaaGreatDoorZC15
import Derived.Test.YtfpkiomipjmabaaGreatDoorZC25
set_option linter.unusedSimpArgs false
set_option linter.unusedVariables false
section
set_option maxRecDepth 100000
set_option maxHeartbeats 1000000
namespace Go.Proofs
open Go.Lv
theorem wi {x y : V} (h : LeV x y := by first | exact leA | exact LeV.atc ⟨.inl rfl, y1 rfl (by simp [cr, ig]) (by simp [ig]), y1 rfl rfl rfl, .inl rfl, .inl rfl, trivial⟩ | exact LeV.atc ⟨.inl rfl, y1 rfl (by simp [cr, ig]) (by simp [ig]), LeE.nil, .inl rfl, .inl rfl, trivial⟩) : LeV x y := h
def cr (K : List Int) : List az := K.map fun n => ⟨n, true, 0⟩
def ig (K : List Int) : ab := ⟨0, cr K, [], 1, 0⟩
theorem qy {K : List Int} {i : Nat} (hi : i < K.length) : cr (K.take (i + 1)) = cr (K.take i) ++ [⟨K[i], true, 0⟩] := by
 rw [cr, List.take_succ_eq_append_getElem hi, List.map_append]; rfl
theorem zg {K : List Int} {i : Nat} (hi : i ≤ K.length) : (cr (K.take i)).length = i := by simp [cr]; omega
def aar : V := .tup [.agg [.int .i64 0, .nilsl, .nilsl, .int .i64 0, .int .i64 0], .bool false]
theorem aqm {K : List Int} (h : wB (ig K) = true) : K.length ≤ 8 := by
 have := (dt h).plen
 simpa [ig, cr] using this
theorem wv (K : List Int) (hk : K.length ≤ 16777216) (r : V) (hout : Hp)
   (fin : wB (ig K) = true → al 0 (.tup [.agg [.int .i64 0, .osl 1 0 K.length 3, .osl 2 0 0 5, .int .i64 1, .int .i64 0], .bool true]) [some [.int .i64 0, .osl 1 0 K.length 3, .osl 2 0 0 5, .int .i64 1, .int .i64 0], some (rows az.cs (cr K)), some [], some [.int .i64 0, .osl 1 0 K.length 3, .osl 2 0 0 5, .int .i64 1, .int .i64 0]] r hout)
   (no : wB (ig K) = false → r = aar ∧ hout = []) : Ctr Tryz.prog 116 [IntS.sl K] [] r hout := by
 refine Ctr.intro Tryz.mixed Tryz.func116 rfl Tryz.aza ?_
 simp -implicitDefEqProofs -dsimp only [go_sem, Tryz.ntmps116, Tryz.results116]
 refine cw.intro (fun i : Nat => i ≤ K.length) (fun i => ⟨[IntS.sl K, .undef, .ptr 0 0, .undef, .ptr 3 0, .int .i64 i, .undef, .undef, .undef, .undef, .undef, .undef, .undef, .undef, .undef, .undef, .undef, .undef, .undef, .undef, .undef, .undef, .undef, .undef, .undef, .undef, .undef, .undef, .undef, .undef], [some [.int .i64 0, .nilsl, .nilsl, .int .i64 0, .int .i64 0], some (rows az.cs (cr (K.take i))), some [], some [.int .i64 0, .osl 1 0 i 3, .osl 2 0 0 5, .int .i64 1, .int .i64 0]], 0⟩) (fun i => K.length - i) 0 (Nat.zero_le _) ?_ (fun i hi => ?_)
 · refine br.cut (4) (by simp) (by simp) ?_ ?_
   · simp [LeC, LeV, ren, bm]
   · simp [cb, db, ren, bm, cr, rows]
 simp -implicitDefEqProofs -dsimp only [go_sem]
 refine bd.split (fun h1 => ?_) (fun h1 => ?_)
 · simp -implicitDefEqProofs -dsimp only [go_sem, h1]
   have hi' : i < K.length := by simpa using h1
   have hr := bt IntS.csl hi'
   have hn := zg hi
   (repeat ((repeat1' (first | simp -implicitDefEqProofs -dsimp only [go_sem, hr, IntS.cs, ay, hn, bb] | simp -dsimp (disch := omega) only [wrap_i64])); repeat (with_reducible refine ah ?_)))
   refine ⟨i + 1, hi', ?_, by omega⟩
   refine br.cut (4) (by simp) (by simp) ?_ ?_
   · simp [LeC, LeV, ren, bm]
   · rw [qy hi', ← dk]
     simp [cb, db, ren, bm, ae, cx, az.cs]
 · simp -implicitDefEqProofs -dsimp only [go_sem, h1]
   have hi' : i = K.length := by simp at h1; omega
   subst hi'
   rw [List.take_length]
   (have ct := dv (ig K) (by simp [ig, cr]; omega) (by simp [ig]); (first | refine ak.at ct ⟨wi, trivial⟩ ?_ | refine aj.at ct ⟨wi, trivial⟩ ?_); clear ct)
   cases h : wB (ig K) with
   | false =>
     simp -implicitDefEqProofs -dsimp only [go_sem, h]
     obtain ⟨rfl, rfl⟩ := no h
     exact al.ax rfl (by rfl)
   | true =>
     simp -implicitDefEqProofs -dsimp only [go_sem, h]
     exact fin h
theorem agp (K : List Int) (hk : K.length ≤ 16777216) (h : wB (ig K) = false) : Ctr Tryz.prog 116 [IntS.sl K] [] aar [] :=
 wv K hk _ _ (fun h' => by rw [h] at h'; cases h') (fun _ => ⟨rfl, rfl⟩)
theorem ahc (K : List Int) (hk : K.length ≤ 16777216) (h : wB (ig K) = true) : Ctr Tryz.prog 116 [IntS.sl K] [] (.tup [.agg [.int .i64 0, .osl 0 0 K.length 3, .osl 1 0 0 5, .int .i64 1, .int .i64 0], .bool true]) [some (rows az.cs (cr K)), some []] := by
 refine wv K hk _ _ (fun _ => ?_) (fun h' => by rw [h] at h'; cases h')
 refine al.pick [1, 2] (by decide) (fun j hj => by omega) (.inl ?_) ?_
 · first | rfl | (simp [ren, bg, posOf]; done)
 · simp only [bc, List.map_cons, List.map_nil, bh, List.getElem?_cons_zero, List.getElem?_cons_succ, ae]
def aqz (K : List Int) : Nat → Hp
 | 0 => [some [.int .i64 0, .nilsl, .nilsl, .int .i64 1, .int .i64 0]]
 | i + 1 => [some [.int .i64 0, .osl 2 0 (i + 1) 3, .nilsl, .int .i64 1, .int .i64 0], some (rows az.cs (cr (K.take (i + 1))))]
theorem aq8 (K : List Int) : aqz K 0 = [some [.int .i64 0, .nilsl, .nilsl, .int .i64 1, .int .i64 0]] := rfl
theorem agk (K : List Int) (i : Nat) : aqz K (i + 1) = [some [.int .i64 0, .osl 2 0 (i + 1) 3, .nilsl, .int .i64 1, .int .i64 0], some (rows az.cs (cr (K.take (i + 1))))] := rfl
theorem re (K : List Int) (hk : K.length ≤ 16777216) (r : V) (hout : Hp)
   (fin0 : K = [] → al 0 (.tup [.agg [.int .i64 0, .nilsl, .nilsl, .int .i64 1, .int .i64 0], .bool true]) [some [.int .i64 0, .nilsl, .nilsl, .int .i64 1, .int .i64 0], some [.int .i64 0, .nilsl, .nilsl, .int .i64 1, .int .i64 0]] r hout)
   (fin : K ≠ [] → wB (ig K) = true → al 0 (.tup [.agg [.int .i64 0, .osl 2 0 K.length 3, .nilsl, .int .i64 1, .int .i64 0], .bool true]) [some [.int .i64 0, .osl 2 0 K.length 3, .nilsl, .int .i64 1, .int .i64 0], some [.int .i64 0, .osl 2 0 K.length 3, .nilsl, .int .i64 1, .int .i64 0], some (rows az.cs (cr K))] r hout)
   (no : wB (ig K) = false → r = aar ∧ hout = []) : Ctr Tryz.prog 115 [IntS.sl K] [] r hout := by
 refine Ctr.intro Tryz.mixed Tryz.func115 rfl Tryz.avy ?_
 simp -implicitDefEqProofs -dsimp only [go_sem, Tryz.ntmps115, Tryz.results115]
 refine cw.intro (fun i : Nat => i ≤ K.length) (fun i => ⟨[IntS.sl K, .undef, .ptr 0 0, .undef, .ptr 1 0, .undef, .undef, .undef, IntS.sl K, .int .i64 K.length, .int .i64 i, .undef, .undef, .undef, .undef, .undef, .undef, .undef, .undef, .undef, .undef, .undef, .undef, .undef, .undef, .undef, .undef, .undef, .undef, .undef, .undef, .undef], some [.int .i64 0, .nilsl, .nilsl, .int .i64 0, .int .i64 0] :: aqz K i, 0⟩) (fun i => K.length - i) 0 (Nat.zero_le _) ?_ (fun i hi => ?_)
 · refine br.cut (2) (by simp) (by simp) ?_ ?_
   · simp [LeC, LeV, ren, bm]
   · simp [cb, db, ren, bm, aqz]
 simp -implicitDefEqProofs -dsimp only [go_sem]
 refine bd.split (fun h1 => ?_) (fun h1 => ?_)
 · have hi' : i < K.length := by simpa using h1
   have hr := bt IntS.csl hi'
   cases i with
   | zero =>
     have hr0 := hr
     rw [Nat.zero_mul, List.drop_zero] at hr0
     (repeat ((repeat1' (first | simp -implicitDefEqProofs -dsimp only [go_sem, h1, hr, hr0, IntS.cs, aq8] | simp -dsimp (disch := omega) only [wrap_i64])); repeat (with_reducible refine ah ?_)))
     refine ⟨1, by omega, ?_, by omega⟩
     refine br.pick [0, 1, 3] (by decide) (fun j hj => by omega) ?_ ?_
     · simp [LeG, LeV, ren, bg, posOf]
     · rw [agk, qy hi']
       simp [bc, bh, ren, bg, posOf, cr, rows, az.cs]
   | succ i =>
     have hn := zg hi
     (repeat ((repeat1' (first | simp -implicitDefEqProofs -dsimp only [go_sem, h1, hr, IntS.cs, agk, ay, hn, bb] | simp -dsimp (disch := omega) only [wrap_i64])); repeat (with_reducible refine ah ?_)))
     refine ⟨i + 2, by omega, ?_, by omega⟩
     refine br.cut (3) (by simp) (by simp) ?_ ?_
     · simp [LeC, LeV, ren, bm]
       omega
     · rw [agk, qy hi', ← dk]
       simp [cb, db, ren, bm, ae, cx, az.cs]
 · simp -implicitDefEqProofs -dsimp only [go_sem, h1]
   have hi' : i = K.length := by simp at h1; omega
   subst hi'
   by_cases hK : K = []
   · subst hK
     have h0 : wB (ig []) = true := by simp [wB, ig, cr, iv, eb, gh]
     simp -implicitDefEqProofs -dsimp only [go_sem, List.length_nil, aq8, Int.natCast_zero]
     repeat (first | ((have ct := de (ig []) (by simp [ig, cr]) (by simp [ig]); (first | refine ak.at ct ⟨wi, trivial⟩ ?_ | refine aj.at ct ⟨wi, trivial⟩ ?_); clear ct); simp -implicitDefEqProofs -dsimp only [go_sem, h0]) | (with_reducible refine And.intro (by first | omega | (show bp _ = true; kernel_rfl)) ?_; try (repeat1' (first | simp -implicitDefEqProofs -dsimp only [go_sem, h0] | simp -dsimp (disch := omega) only [wrap_i64]))))
     exact fin0 rfl
   · have e : aqz K K.length = [some [.int .i64 0, .osl 2 0 K.length 3, .nilsl, .int .i64 1, .int .i64 0], some (rows az.cs (cr K))] := by
       obtain ⟨m, hm⟩ : ∃ m, K.length = m + 1 := ⟨K.length - 1, by have := List.length_pos_iff.2 hK; omega⟩
       rw [hm, agk, ← hm, List.take_length]
     rw [e]
     by_cases g : K.length ≤ 8
     · have g' : decide ((8 : Int) < K.length) = false := decide_eq_false (by omega)
       simp -implicitDefEqProofs -dsimp only [go_sem, g']
       (have ct := de (ig K) (by simp [ig, cr]; omega) (by simp [ig]); (first | refine ak.at ct ⟨wi, trivial⟩ ?_ | refine aj.at ct ⟨wi, trivial⟩ ?_); clear ct)
       cases h : wB (ig K) with
       | false =>
         simp -implicitDefEqProofs -dsimp only [go_sem, h]
         obtain ⟨rfl, rfl⟩ := no h
         exact al.ax rfl (by rfl)
       | true =>
         simp -implicitDefEqProofs -dsimp only [go_sem, h]
         exact fin hK h
     · have g' : decide ((8 : Int) < K.length) = true := decide_eq_true (by omega)
       simp -implicitDefEqProofs -dsimp only [go_sem, g']
       have h : wB (ig K) = false := by
         cases h : wB (ig K) with
         | false => rfl
         | true => exact absurd (aqm h) g
       obtain ⟨rfl, rfl⟩ := no h
       exact al.ax rfl (by rfl)
theorem ah6 (K : List Int) (hk : K.length ≤ 16777216) (h : wB (ig K) = false) : Ctr Tryz.prog 115 [IntS.sl K] [] aar [] := by
 refine re K hk _ _ (fun h' => ?_) (fun _ h' => by rw [h] at h'; cases h') (fun _ => ⟨rfl, rfl⟩)
 subst h'
 simp [wB, ig, cr, iv, eb, gh] at h
theorem ae0 : Ctr Tryz.prog 115 [IntS.sl []] [] (.tup [.agg [.int .i64 0, .nilsl, .nilsl, .int .i64 1, .int .i64 0], .bool true]) [] := by
 refine re [] (by simp) _ _ (fun _ => al.ax rfl (by rfl)) (fun h => absurd rfl h) (fun h => ?_)
 simp [wB, ig, cr, iv, eb, gh] at h
theorem ahx (K : List Int) (hk : K.length ≤ 16777216) (hK : K ≠ []) (h : wB (ig K) = true) : Ctr Tryz.prog 115 [IntS.sl K] [] (.tup [.agg [.int .i64 0, .osl 0 0 K.length 3, .nilsl, .int .i64 1, .int .i64 0], .bool true]) [some (rows az.cs (cr K))] := by
 refine re K hk _ _ (fun h' => absurd h' hK) (fun _ _ => ?_) (fun h' => by rw [h] at h'; cases h')
 refine al.pick [2] (by decide) (fun j hj => by omega) (.inl ?_) ?_
 · first | rfl | (simp [ren, bg, posOf]; done)
 · simp only [bc, List.map_cons, List.map_nil, bh, List.getElem?_cons_zero, List.getElem?_cons_succ, ae]
end Go.Proofs
end
section
set_option maxRecDepth 100000
set_option maxHeartbeats 1000000
namespace Go.Proofs
open Go.Lv
structure LogV where
 Durable : ByteArray
 Pending : ByteArray
 Count : Int
def LogV.v (l : LogV) : V := .agg [.str l.Durable, .str l.Pending, .int .i64 l.Count]
def aix : V := .tup [.agg [.int .i64 0, .nilsl, .nilsl, .int .i64 0, .int .i64 0, .str ByteArray.empty, .str ByteArray.empty, .int .i64 0], .bool false]
theorem acw (K : List Int) (hk : K.length ≤ 16777216) (h : wB (ig K) = false) : Ctr Tryz.prog 55 [IntS.sl K] [] aix [] := by
 have cs := agp K hk h
 simp only [aar] at cs
 refine Ctr.intro Tryz.mixed Tryz.func55 rfl Tryz.at4 ?_
 simp -implicitDefEqProofs -dsimp only [go_sem, Tryz.ntmps55, Tryz.results55]
 (first | refine ak.at (cs) ⟨leA, trivial⟩ ?_ | refine aj.at (cs) ⟨leA, trivial⟩ ?_)
 simp -implicitDefEqProofs -dsimp only [go_sem]
 exact al.ax rfl (by rfl)
theorem ace (K : List Int) (hk : K.length ≤ 16777216) (h : wB (ig K) = false) : Ctr Tryz.prog 54 [IntS.sl K] [] aix [] := by
 have cs := ah6 K hk h
 simp only [aar] at cs
 refine Ctr.intro Tryz.mixed Tryz.func54 rfl Tryz.aor ?_
 simp -implicitDefEqProofs -dsimp only [go_sem, Tryz.ntmps54, Tryz.results54]
 (first | refine ak.at (cs) ⟨leA, trivial⟩ ?_ | refine aj.at (cs) ⟨leA, trivial⟩ ?_)
 simp -implicitDefEqProofs -dsimp only [go_sem]
 exact al.ax rfl (by rfl)
theorem acm (K : List Int) (hk : K.length ≤ 16777216) (h : wB (ig K) = true) : Ctr Tryz.prog 55 [IntS.sl K] [] (.tup [.agg [.int .i64 0, .osl 0 0 K.length 3, .osl 1 0 0 5, .int .i64 1, .int .i64 0, .str ByteArray.empty, .str ByteArray.empty, .int .i64 0], .bool true]) [some (rows az.cs (cr K)), some []] := by
 have cs := ahc K hk h
 refine Ctr.intro Tryz.mixed Tryz.func55 rfl Tryz.at4 ?_
 simp -implicitDefEqProofs -dsimp only [go_sem, Tryz.ntmps55, Tryz.results55]
 (first | refine ak.at (cs) ⟨leA, trivial⟩ ?_ | refine aj.at (cs) ⟨leA, trivial⟩ ?_)
 simp -implicitDefEqProofs -dsimp only [go_sem]
 refine al.pick [1, 2] (by decide) (fun j hj => by omega) (.inl ?_) ?_
 · first | rfl | (simp [ren, bg, posOf]; done)
 · simp only [bc, List.map_cons, List.map_nil, bh, List.getElem?_cons_zero, List.getElem?_cons_succ, ae]
theorem abh : Ctr Tryz.prog 54 [IntS.sl []] [] (.tup [.agg [.int .i64 0, .nilsl, .nilsl, .int .i64 1, .int .i64 0, .str ByteArray.empty, .str ByteArray.empty, .int .i64 0], .bool true]) [] := by
 have cs := ae0
 refine Ctr.intro Tryz.mixed Tryz.func54 rfl Tryz.aor ?_
 simp -implicitDefEqProofs -dsimp only [go_sem, Tryz.ntmps54, Tryz.results54]
 (first | refine ak.at (cs) ⟨leA, trivial⟩ ?_ | refine aj.at (cs) ⟨leA, trivial⟩ ?_)
 simp -implicitDefEqProofs -dsimp only [go_sem]
 exact al.ax rfl (by rfl)
theorem acf (K : List Int) (hk : K.length ≤ 16777216) (hK : K ≠ []) (h : wB (ig K) = true) : Ctr Tryz.prog 54 [IntS.sl K] [] (.tup [.agg [.int .i64 0, .osl 0 0 K.length 3, .nilsl, .int .i64 1, .int .i64 0, .str ByteArray.empty, .str ByteArray.empty, .int .i64 0], .bool true]) [some (rows az.cs (cr K))] := by
 have cs := ahx K hk hK h
 refine Ctr.intro Tryz.mixed Tryz.func54 rfl Tryz.aor ?_
 simp -implicitDefEqProofs -dsimp only [go_sem, Tryz.ntmps54, Tryz.results54]
 (first | refine ak.at (cs) ⟨leA, trivial⟩ ?_ | refine aj.at (cs) ⟨leA, trivial⟩ ?_)
 simp -implicitDefEqProofs -dsimp only [go_sem]
 refine al.pick [1] (by decide) (fun j hj => by omega) (.inl ?_) ?_
 · first | rfl | (simp [ren, bg, posOf]; done)
 · simp only [bc, List.map_cons, List.map_nil, bh, List.getElem?_cons_zero, List.getElem?_cons_succ, ae]
end Go.Proofs
end
section
set_option maxRecDepth 100000
set_option maxHeartbeats 4000000
namespace Go.Proofs
open Go.Lv
theorem al.tup2 {a a' b : V} {h : Hp} (hl : LeV a a') : al 0 (.tup [a, b]) h (.tup [a', b]) h := by
 intro w0 m0 h0 av0 W m val e1 e2 hlt hle H hx hi
 refine ⟨m, H, ?_, hi⟩
 cases hx with
 | tup x vs ha hra =>
   refine .tup _ _ ha (fun i hi => ?_)
   match i, hi with
   | 0, _ => exact (hra 0 (by simp)).le hl
   | 1, _ => exact hra 1 (by simp)
def ahk (K : List Int) : ai := ⟨ig K, ⟨ByteArray.empty, ByteArray.empty, 0⟩⟩
theorem vt (K : List Int) : (cr K).length = K.length := by simp [cr]
theorem akf (K : List Int) (hk : K.length ≤ 16777216) (h : wB (ig K) = true) : Ctr Tryz.prog 55 [IntS.sl K] [] (.tup [(ahk K).v, .bool true]) [] :=
 (acm K hk h).rn (by
   refine al.pick [] (by decide) (fun j hj => by omega) (.inl ?_) rfl
   have e1 := e9 (cs := az.cs) (cr K)
   rw [vt] at e1
   simp [ahk, ig, ai.v, ren, bg, posOf, sx, ae, vt] at e1 ⊢
   exact ⟨e1.symm, rfl⟩)
theorem alh (K : List Int) (hk : K.length ≤ 16777216) (h : wB (ig K) = true) : Ctr Tryz.prog 54 [IntS.sl K] [] (.tup [(ahk K).v, .bool true]) [] := by
 by_cases hn : K = []
 · subst hn
   exact abh.rn (al.tup2 (LeV.agg ⟨.inl rfl, LeE.nil, LeE.nil, .inl rfl, .inl rfl, .inl rfl, .inl rfl, .inl rfl, trivial⟩))
 · refine ((acf K hk hn h).rn (r' := .tup [.agg [.int .i64 0, .sl K.length 3 (rows az.cs (cr K)), .nilsl, .int .i64 1, .int .i64 0, .str ByteArray.empty, .str ByteArray.empty, .int .i64 0], .bool true]) (hout' := []) ?_).rn (al.tup2 (LeV.agg ⟨.inl rfl, .inl ?_, LeE.nil, .inl rfl, .inl rfl, .inl rfl, .inl rfl, .inl rfl, trivial⟩))
   · refine al.pick [] (by decide) (fun j hj => by omega) (.inl ?_) rfl
     have e1 := e9 (cs := az.cs) (cr K)
     rw [vt] at e1
     simp [ren, bg, posOf, sx, ae] at e1 ⊢
     exact e1.symm
   · simp [ahk, ig, vt]
theorem wb (s : ByteArray) : ∀ n, ∀ e ∈ (rdN s n).1, iw e = true
 | 0, e, h => by simp [rdN] at h
 | n + 1, e, h => by
   cases g : gx (rdN s n).1.length (s.extract (rdN s n).2 s.size) with
   | none => rw [pk g] at h; exact wb s n e h
   | some r =>
     rw [js g] at h
     rcases List.mem_append.1 h with h | h
     · exact wb s n e h
     · simp only [List.mem_singleton] at h
       subst h
       exact (me.1 (r7 g).2.1).2.1
noncomputable def aeo : ai → List aw → Nat
 | _, [] => 0
 | c, e :: es => if (dj c e.Command).2 = e.Reply then aeo (dj c e.Command).1 es + 1 else 0
noncomputable def ui (c : ai) (L : List aw) : ai := L.foldl (fun c e => (dj c e.Command).1) c
theorem aal {c : ai} {L : List aw} {i : Nat} (h : i < L.length) : ui c (L.take (i + 1)) = (dj (ui c (L.take i)) L[i].Command).1 := by
 rw [List.take_succ_eq_append_getElem h, ui, List.foldl_append]; rfl
theorem agt {c : ai} {L : List aw} (h : c.sz 0) : ∀ i, i ≤ L.length → (ui c (L.take i)).sz i
 | 0, _ => h
 | i + 1, hi => by
   rw [aal (show i < L.length by omega)]
   exact aiz (agt h i (by omega))
noncomputable def qv (K : List Int) (l : Log) : V := if wB (ig K) && nc l then .tup [.int .i64 (aeo (ahk K) (cy (l.Durable ++ l.Pending)) : Nat), .bool true] else .tup [.int .i64 0, .bool false]
theorem amr (K : List Int) (hk : K.length ≤ 1048576) : (ahk K).sz 0 := by
 refine ⟨?_, ?_, ?_, ?_⟩ <;> simp [ahk, ig, vt] <;> omega
theorem aev (K : List Int) (l : Log) (hk : K.length ≤ 1048576) (hd : l.Durable.size ≤ 1048576) (hp : l.Pending.size ≤ 1048576) : Ctr Tryz.prog 29 [IntS.sl K, l.v] [] (qv K l) [] := by
 have hr := aee l (by omega) (by omega)
 cases h1 : wB (ig K) with
 | false =>
   have hn := ace K (by omega) h1
   simp only [aix] at hn
   rw [qv, h1]
   refine Ctr.intro Tryz.mixed Tryz.func29 rfl Tryz.aou ?_
   simp -implicitDefEqProofs -dsimp only [go_sem, Tryz.ntmps29, Tryz.results29]
   (repeat ((repeat1' (first | simp -implicitDefEqProofs -dsimp only [go_sem, Log.v] | simp -dsimp (disch := omega) only [wrap_i64])); repeat (with_reducible refine ah ?_)))
   (first | refine ak.at (hn) ⟨leA, trivial⟩ ?_ | refine aj.at (hn) ⟨leA, trivial⟩ ?_)
   (repeat ((repeat1' (first | simp -implicitDefEqProofs -dsimp only [go_sem, Log.v] | simp -dsimp (disch := omega) only [wrap_i64])); repeat (with_reducible refine ah ?_)))
   (first | refine ak.at (hr) ⟨leA, trivial⟩ ?_ | refine aj.at (hr) ⟨leA, trivial⟩ ?_)
   (repeat ((repeat1' (first | simp -implicitDefEqProofs -dsimp only [go_sem, aeh, afg] | simp -dsimp (disch := omega) only [wrap_i64])); repeat (with_reducible refine ah ?_)))
   exact al.ax rfl (by rfl)
 | true =>
 have hn := alh K (by omega) h1
 have hz := amr K hk
 have hB := wb (l.Durable ++ l.Pending) 60
 have h60 := (r5 (l.Durable ++ l.Pending)).2.2.2
 rw [show (rdN (l.Durable ++ l.Pending) 60).1 = cy (l.Durable ++ l.Pending) from rfl] at hB
 unfold aeh afg at hr
 rw [qv, h1]
 generalize cy (l.Durable ++ l.Pending) = M at *
 generalize ahk K = c at *
 cases h2 : nc l with
 | false =>
   rw [h2] at hr
   refine Ctr.intro Tryz.mixed Tryz.func29 rfl Tryz.aou ?_
   simp -implicitDefEqProofs -dsimp only [go_sem, Tryz.ntmps29, Tryz.results29]
   (repeat ((repeat1' (first | simp -implicitDefEqProofs -dsimp only [go_sem, Log.v] | simp -dsimp (disch := omega) only [wrap_i64])); repeat (with_reducible refine ah ?_)))
   (first | refine ak.at (hn) ⟨leA, trivial⟩ ?_ | refine aj.at (hn) ⟨leA, trivial⟩ ?_)
   (repeat ((repeat1' (first | simp -implicitDefEqProofs -dsimp only [go_sem, Log.v, ai.v] | simp -dsimp (disch := omega) only [wrap_i64])); repeat (with_reducible refine ah ?_)))
   (first | refine ak.at (hr) ⟨leA, trivial⟩ ?_ | refine aj.at (hr) ⟨leA, trivial⟩ ?_)
   (repeat ((repeat1' (first | simp -implicitDefEqProofs -dsimp only [go_sem] | simp -dsimp (disch := omega) only [wrap_i64])); repeat (with_reducible refine ah ?_)))
   exact al.ax rfl (by rfl)
 | true =>
   rw [h2] at hr
   refine Ctr.intro Tryz.mixed Tryz.func29 rfl Tryz.aou ?_
   simp -implicitDefEqProofs -dsimp only [go_sem, Tryz.ntmps29, Tryz.results29]
   (repeat ((repeat1' (first | simp -implicitDefEqProofs -dsimp only [go_sem, Log.v] | simp -dsimp (disch := omega) only [wrap_i64])); repeat (with_reducible refine ah ?_)))
   (first | refine ak.at (hn) ⟨leA, trivial⟩ ?_ | refine aj.at (hn) ⟨leA, trivial⟩ ?_)
   (repeat ((repeat1' (first | simp -implicitDefEqProofs -dsimp only [go_sem, Log.v, ai.v] | simp -dsimp (disch := omega) only [wrap_i64])); repeat (with_reducible refine ah ?_)))
   (first | refine ak.at (hr) ⟨leA, trivial⟩ ?_ | refine aj.at (hr) ⟨leA, trivial⟩ ?_)
   (repeat ((repeat1' (first | simp -implicitDefEqProofs -dsimp only [go_sem, ay, bb] | simp -dsimp (disch := omega) only [wrap_i64])); repeat (with_reducible refine ah ?_)))
   refine cw.intro (fun i : Nat => i ≤ M.length ∧ aeo c M = i + aeo (ui c (M.take i)) (M.drop i)) (fun i => ⟨[.undef, .undef, .undef, .undef, .undef, .undef, .ptr 1 0, .undef, .osl 2 0 M.length 2, .undef, .undef, .undef, .undef, .undef, .undef, .undef, .undef, .undef, .undef, .undef, .undef, .undef, .undef, .undef, .undef, .undef, .undef, .undef, .undef, .osl 2 0 M.length 2, .int .i64 M.length, .int .i64 i, .undef, .undef, .undef, .undef, .undef, .undef, .undef, .undef, .undef, .undef, .undef, .undef, .undef, .undef, .undef, .undef, .undef, .undef, .undef], [some l.cs, some (ui c (M.take i)).cs, some (rows aw.cs M)], 0⟩) (fun i => M.length - i) 0 ⟨Nat.zero_le _, by simp [ui]⟩ ?_ (fun i hi => ?_)
   · refine br.cut (3) (by simp) (by simp) ?_ ?_
     · simp [LeC, LeV, ren, bm]
     · simp [cb, db, ren, ae, cx, jk, Log.cs, ai.cs, ui]
   obtain ⟨hi, hrep⟩ := hi
   (repeat ((repeat1' (first | simp -implicitDefEqProofs -dsimp only [go_sem] | simp -dsimp (disch := omega) only [wrap_i64])); repeat (with_reducible refine ah ?_)))
   refine bd.split (fun g1 => ?_) (fun g1 => ?_)
   · have hi' : i < M.length := by have := of_decide_eq_true g1; omega
     have hrow := bt aw.csl hi'
     have hst := aal (c := c) hi'
     have hszi := agt hz i hi
     have hbd := sr (hB _ (List.getElem_mem hi'))
     have hx := afy (ui c (M.take i)) M[i].Command (ai.vz hszi (by omega)) (by omega)
     rw [List.drop_eq_getElem_cons hi', aeo, ← hst] at hrep
     generalize hd' : ui c (M.take (i + 1)) = d' at *
     generalize ui c (M.take i) = d at *
     rw [← hst] at hx
     (repeat ((repeat1' (first | simp -implicitDefEqProofs -dsimp only [go_sem, g1, hrow, aw.cs, ai.cs] | simp -dsimp (disch := omega) only [wrap_i64])); repeat (with_reducible refine ah ?_)))
     (first | refine ak.at (hx) ⟨leA, leA, trivial⟩ ?_ | refine aj.at (hx) ⟨leA, leA, trivial⟩ ?_)
     (repeat ((repeat1' (first | simp -implicitDefEqProofs -dsimp only [go_sem, ai.v, aw.cs, gg] | simp -dsimp (disch := omega) only [wrap_i64])); repeat (with_reducible refine ah ?_)))
     by_cases hq : (dj d M[i].Command).2 = M[i].Reply
     · rw [if_pos hq] at hrep
       (repeat ((repeat1' (first | simp -implicitDefEqProofs -dsimp only [go_sem, decide_eq_true hq] | simp -dsimp (disch := omega) only [wrap_i64])); repeat (with_reducible refine ah ?_)))
       refine ⟨i + 1, ⟨hi', by rw [hd', hrep]; omega⟩, ?_, by omega⟩
       rw [hd']
       refine br.cut (3) (by simp) (by simp) ?_ ?_
       · simp [LeC, LeV, ren, bm]
       · simp [cb, db, ren, ae, cx, jk, Log.cs, ai.cs]
     · rw [if_neg hq, Nat.add_zero] at hrep
       (repeat ((repeat1' (first | simp -implicitDefEqProofs -dsimp only [go_sem, decide_eq_false hq] | simp -dsimp (disch := omega) only [wrap_i64])); repeat (with_reducible refine ah ?_)))
       rw [hrep]
       exact al.ax rfl (by rfl)
   · have hi' : i = M.length := by have := of_decide_eq_false g1; omega
     subst hi'
     (repeat ((repeat1' (first | simp -implicitDefEqProofs -dsimp only [go_sem, g1] | simp -dsimp (disch := omega) only [wrap_i64])); repeat (with_reducible refine ah ?_)))
     rw [hrep, List.drop_length, aeo, Nat.add_zero]
     exact al.ax rfl (by rfl)
theorem aer (K : List Int) (l : Log) (hk : K.length ≤ 1048576) (hd : l.Durable.size ≤ 1048576) (hp : l.Pending.size ≤ 1048576) : Ctr Tryz.prog 26 [IntS.sl K, l.v] [] (qv K l) [] := by
 have hg := wj l (by omega) (by omega)
 have hr := ad8 l (by omega) (by omega)
 cases h1 : wB (ig K) with
 | false =>
   have hn := acw K (by omega) h1
   simp only [aix] at hn
   rw [qv, h1]
   refine Ctr.intro Tryz.mixed Tryz.func26 rfl Tryz.aqv ?_
   simp -implicitDefEqProofs -dsimp only [go_sem, Tryz.ntmps26, Tryz.results26]
   (repeat ((repeat1' (first | simp -implicitDefEqProofs -dsimp only [go_sem, Log.v] | simp -dsimp (disch := omega) only [wrap_i64])); repeat (with_reducible refine ah ?_)))
   (first | refine ak.at (hn) ⟨leA, trivial⟩ ?_ | refine aj.at (hn) ⟨leA, trivial⟩ ?_)
   (repeat ((repeat1' (first | simp -implicitDefEqProofs -dsimp only [go_sem, Log.v] | simp -dsimp (disch := omega) only [wrap_i64])); repeat (with_reducible refine ah ?_)))
   exact al.ax rfl (by rfl)
 | true =>
 have hn := akf K (by omega) h1
 have hz := amr K hk
 rw [qv, h1]
 generalize ahk K = c at *
 cases h2 : nc l with
 | false =>
   rw [h2] at hg
   refine Ctr.intro Tryz.mixed Tryz.func26 rfl Tryz.aqv ?_
   simp -implicitDefEqProofs -dsimp only [go_sem, Tryz.ntmps26, Tryz.results26]
   (repeat ((repeat1' (first | simp -implicitDefEqProofs -dsimp only [go_sem, Log.v] | simp -dsimp (disch := omega) only [wrap_i64])); repeat (with_reducible refine ah ?_)))
   (first | refine ak.at (hn) ⟨leA, trivial⟩ ?_ | refine aj.at (hn) ⟨leA, trivial⟩ ?_)
   (repeat ((repeat1' (first | simp -implicitDefEqProofs -dsimp only [go_sem, Log.v, ai.v] | simp -dsimp (disch := omega) only [wrap_i64])); repeat (with_reducible refine ah ?_)))
   (first | refine ak.at (hg) ⟨leA, trivial⟩ ?_ | refine aj.at (hg) ⟨leA, trivial⟩ ?_)
   (repeat ((repeat1' (first | simp -implicitDefEqProofs -dsimp only [go_sem] | simp -dsimp (disch := omega) only [wrap_i64])); repeat (with_reducible refine ah ?_)))
   exact al.ax rfl (by rfl)
 | true =>
   have hB := wb (l.Durable ++ l.Pending) 60
   have h60 := (r5 (l.Durable ++ l.Pending)).2.2.2
   rw [show (rdN (l.Durable ++ l.Pending) 60).1 = cy (l.Durable ++ l.Pending) from rfl] at hB
   rw [h2] at hg
   rw [pf, if_pos h2] at hr
   simp only [tn, lz] at hr
   generalize cy (l.Durable ++ l.Pending) = M at *
   refine Ctr.intro Tryz.mixed Tryz.func26 rfl Tryz.aqv ?_
   simp -implicitDefEqProofs -dsimp only [go_sem, Tryz.ntmps26, Tryz.results26]
   (repeat ((repeat1' (first | simp -implicitDefEqProofs -dsimp only [go_sem, Log.v] | simp -dsimp (disch := omega) only [wrap_i64])); repeat (with_reducible refine ah ?_)))
   (first | refine ak.at (hn) ⟨leA, trivial⟩ ?_ | refine aj.at (hn) ⟨leA, trivial⟩ ?_)
   (repeat ((repeat1' (first | simp -implicitDefEqProofs -dsimp only [go_sem, Log.v, ai.v] | simp -dsimp (disch := omega) only [wrap_i64])); repeat (with_reducible refine ah ?_)))
   (first | refine ak.at (hg) ⟨leA, trivial⟩ ?_ | refine aj.at (hg) ⟨leA, trivial⟩ ?_)
   (repeat ((repeat1' (first | simp -implicitDefEqProofs -dsimp only [go_sem, Log.v] | simp -dsimp (disch := omega) only [wrap_i64])); repeat (with_reducible refine ah ?_)))
   (first | refine ak.at (hr) ⟨leA, trivial⟩ ?_ | refine aj.at (hr) ⟨leA, trivial⟩ ?_)
   (repeat ((repeat1' (first | simp -implicitDefEqProofs -dsimp only [go_sem, ay, bb] | simp -dsimp (disch := omega) only [wrap_i64])); repeat (with_reducible refine ah ?_)))
   refine cw.intro (fun i : Nat => i ≤ M.length ∧ aeo c M = i + aeo (ui c (M.take i)) (M.drop i)) (fun i => ⟨[.undef, .undef, .undef, .undef, .undef, .undef, .ptr 1 0, .undef, .osl 2 0 M.length 2, .undef, .undef, .int .i64 i, .undef, .undef, .undef, .undef, .undef, .undef, .undef, .undef, .undef, .undef, .undef, .undef, .undef, .undef, .undef, .undef, .undef, .undef, .undef, .undef, .undef, .undef, .undef, .undef, .undef, .undef, .undef, .undef, .undef, .undef, .undef, .undef, .undef, .undef, .undef, .undef, .undef, .undef, .undef, .undef, .undef, .undef, .undef], [some l.cs, some (ui c (M.take i)).cs, some (rows aw.cs M)], 0⟩) (fun i => M.length - i) 0 ⟨Nat.zero_le _, by simp [ui]⟩ ?_ (fun i hi => ?_)
   · refine br.cut (3) (by simp) (by simp) ?_ ?_
     · simp [LeC, LeV, ren, bm]
     · simp [cb, db, ren, ae, cx, jk, Log.cs, ai.cs, ui]
   obtain ⟨hi, hrep⟩ := hi
   (repeat ((repeat1' (first | simp -implicitDefEqProofs -dsimp only [go_sem] | simp -dsimp (disch := omega) only [wrap_i64])); repeat (with_reducible refine ah ?_)))
   refine bd.split (fun g1 => ?_) (fun g1 => ?_)
   · have hi' : i < M.length := by have := of_decide_eq_true g1; omega
     have hc0 : List.take 1 (List.drop (i * 2 + 0) (rows aw.cs M)) = [.str M[i].Command] := by rw [zd aw.csl hi' 0]; rfl
     have hc1 : List.take 1 (List.drop (i * 2 + 1) (rows aw.cs M)) = [.str M[i].Reply] := by rw [zd aw.csl hi' 1]; rfl
     have hst := aal (c := c) hi'
     have hszi := agt hz i hi
     have hbd := sr (hB _ (List.getElem_mem hi'))
     have hx := aj0 (ui c (M.take i)) M[i].Command (ai.vz hszi (by omega)) (by omega)
     rw [List.drop_eq_getElem_cons hi', aeo, ← hst] at hrep
     generalize hd' : ui c (M.take (i + 1)) = d' at *
     generalize ui c (M.take i) = d at *
     rw [← hst] at hx
     (repeat ((repeat1' (first | simp -implicitDefEqProofs -dsimp only [go_sem, g1, hc0, ai.cs] | simp -dsimp (disch := omega) only [wrap_i64])); repeat (with_reducible refine ah ?_)))
     (first | refine ak.at (hx) ⟨leA, leA, trivial⟩ ?_ | refine aj.at (hx) ⟨leA, leA, trivial⟩ ?_)
     (repeat ((repeat1' (first | simp -implicitDefEqProofs -dsimp only [go_sem, ai.v, gg, hc1] | simp -dsimp (disch := omega) only [wrap_i64])); repeat (with_reducible refine ah ?_)))
     by_cases hq : (dj d M[i].Command).2 = M[i].Reply
     · rw [if_pos hq] at hrep
       (repeat ((repeat1' (first | simp -implicitDefEqProofs -dsimp only [go_sem, decide_eq_true hq] | simp -dsimp (disch := omega) only [wrap_i64])); repeat (with_reducible refine ah ?_)))
       refine ⟨i + 1, ⟨hi', by rw [hd', hrep]; omega⟩, ?_, by omega⟩
       rw [hd']
       refine br.cut (3) (by simp) (by simp) ?_ ?_
       · simp [LeC, LeV, ren, bm]
       · simp [cb, db, ren, ae, cx, jk, Log.cs, ai.cs]
     · rw [if_neg hq, Nat.add_zero] at hrep
       (repeat ((repeat1' (first | simp -implicitDefEqProofs -dsimp only [go_sem, decide_eq_false hq] | simp -dsimp (disch := omega) only [wrap_i64])); repeat (with_reducible refine ah ?_)))
       rw [hrep]
       exact al.ax rfl (by rfl)
   · have hi' : i = M.length := by have := of_decide_eq_false g1; omega
     subst hi'
     (repeat ((repeat1' (first | simp -implicitDefEqProofs -dsimp only [go_sem, g1] | simp -dsimp (disch := omega) only [wrap_i64])); repeat (with_reducible refine ah ?_)))
     rw [hrep, List.drop_length, aeo, Nat.add_zero]
     exact al.ax rfl (by rfl)
end Go.Proofs
end
section
set_option maxRecDepth 100000
set_option maxHeartbeats 4000000
namespace Go.Proofs
open Go.Lv
theorem adf (K : List Int) (l : Log) (hK : agn IntS.ok K) (hl : l.ok) : Ctr Tryz.prog 4 [IntS.sl K, l.v] [] (.bool true) [] := by
 obtain ⟨z, hz, hc⟩ := aji l hl 1048576 (by omega) (by omega)
 refine Ctr.intro Tryz.mixed Tryz.func4 rfl Tryz.okF4 ?_
 simp -implicitDefEqProofs -dsimp only [go_sem, Tryz.ntmps4, Tryz.results4]
 (repeat ((repeat1' (first | simp -implicitDefEqProofs -dsimp only [go_sem, Log.v] | simp -dsimp (disch := omega) only [wrap_i64])); repeat (with_reducible refine ah ?_)))
 refine bd.split (fun h0 => ?_) (fun h0 => ?_) <;> (repeat ((repeat1' (first | simp -implicitDefEqProofs -dsimp only [go_sem, h0] | simp -dsimp (disch := omega) only [wrap_i64])); repeat (with_reducible refine ah ?_)))
 · exact al.ax rfl rfl
 have hk : K.length ≤ 1048576 := by have := of_decide_eq_false h0; omega
 clear h0
 (first | refine ak.at (hc) ⟨leA, leA, trivial⟩ ?_ | refine aj.at (hc) ⟨leA, leA, trivial⟩ ?_)
 (repeat ((repeat1' (first | simp -implicitDefEqProofs -dsimp only [go_sem, Log.v] | simp -dsimp (disch := omega) only [wrap_i64])); repeat (with_reducible refine ah ?_)))
 refine bd.split (fun h1 => ?_) (fun h1 => ?_) <;> (repeat ((repeat1' (first | simp -implicitDefEqProofs -dsimp only [go_sem, h1] | simp -dsimp (disch := omega) only [wrap_i64])); repeat (with_reducible refine ah ?_)))
 · exact al.ax rfl rfl
 obtain ⟨hp, hq⟩ : l.Durable.size ≤ 1048576 ∧ l.Pending.size ≤ 1048576 := by
   simp at h1; rcases hz with hz | hz
   · omega
   · exact hz.2.2
 have cs := aer K l hk hp hq
 have ci := aev K l hk hp hq
 have hti := ant K hk
 have htl := acr l
 have he := ang K (by omega)
 have hV : ∃ n b, qv K l = .tup [.int .i64 n, .bool b] := by unfold qv; split <;> exact ⟨_, _, rfl⟩
 obtain ⟨n, b, hV⟩ := hV
 rw [hV] at cs ci
 (first | refine ak.at (hti) ⟨leA, trivial⟩ ?_ | refine aj.at (hti) ⟨leA, trivial⟩ ?_)
 (repeat ((repeat1' (first | simp -implicitDefEqProofs -dsimp only [go_sem, Log.v] | simp -dsimp (disch := omega) only [wrap_i64])); repeat (with_reducible refine ah ?_)))
 (first | refine ak.at (htl) ⟨leA, trivial⟩ ?_ | refine aj.at (htl) ⟨leA, trivial⟩ ?_)
 (repeat ((repeat1' (first | simp -implicitDefEqProofs -dsimp only [go_sem, Log.v] | simp -dsimp (disch := omega) only [wrap_i64])); repeat (with_reducible refine ah ?_)))
 (first | refine ak.at (cs) ⟨leA, leA, trivial⟩ ?_ | refine aj.at (cs) ⟨leA, leA, trivial⟩ ?_)
 (repeat ((repeat1' (first | simp -implicitDefEqProofs -dsimp only [go_sem, Log.v] | simp -dsimp (disch := omega) only [wrap_i64])); repeat (with_reducible refine ah ?_)))
 (first | refine ak.at (hti) ⟨leA, trivial⟩ ?_ | refine aj.at (hti) ⟨leA, trivial⟩ ?_)
 (repeat ((repeat1' (first | simp -implicitDefEqProofs -dsimp only [go_sem, Log.v] | simp -dsimp (disch := omega) only [wrap_i64])); repeat (with_reducible refine ah ?_)))
 (first | refine ak.at (htl) ⟨leA, trivial⟩ ?_ | refine aj.at (htl) ⟨leA, trivial⟩ ?_)
 (repeat ((repeat1' (first | simp -implicitDefEqProofs -dsimp only [go_sem, Log.v] | simp -dsimp (disch := omega) only [wrap_i64])); repeat (with_reducible refine ah ?_)))
 (first | refine ak.at (ci) ⟨leA, leA, trivial⟩ ?_ | refine aj.at (ci) ⟨leA, leA, trivial⟩ ?_)
 (repeat ((repeat1' (first | simp -implicitDefEqProofs -dsimp only [go_sem, bne_self_eq_false] | simp -dsimp (disch := omega) only [wrap_i64])); repeat (with_reducible refine ah ?_)))
 (first | refine ak.at (hti) ⟨leA, trivial⟩ ?_ | refine aj.at (hti) ⟨leA, trivial⟩ ?_)
 (repeat ((repeat1' (first | simp -implicitDefEqProofs -dsimp only [go_sem] | simp -dsimp (disch := omega) only [wrap_i64])); repeat (with_reducible refine ah ?_)))
 (first | refine ak.at (he) ⟨leA, leA, trivial⟩ ?_ | refine aj.at (he) ⟨leA, leA, trivial⟩ ?_)
 (repeat ((repeat1' (first | simp -implicitDefEqProofs -dsimp only [go_sem] | simp -dsimp (disch := omega) only [wrap_i64])); repeat (with_reducible refine ah ?_)))
 exact al.ax rfl (by rfl)
end Go.Proofs
end
