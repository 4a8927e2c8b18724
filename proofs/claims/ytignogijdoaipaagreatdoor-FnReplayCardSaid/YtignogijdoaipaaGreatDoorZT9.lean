/-
  A part of the proof: texts put together by a program of the prover. Conditions: none.
-/
import Derived.Test.YtignogijdoaipaaGreatDoorZT3
import Derived.Test.YtignogijdoaipaaGreatDoorZT4
import Derived.Test.YtignogijdoaipaaGreatDoorZT5
import Derived.Test.YtignogijdoaipaaGreatDoorZT7
import Derived.Test.YtignogijdoaipaaGreatDoorZT8
import Derived.ProofKit
import Derived.Deep.Slices
set_option linter.unusedSimpArgs false
set_option linter.unusedVariables false
section
set_option maxRecDepth 100000
set_option maxHeartbeats 4000000
namespace Go.Proofs
open Go.Lv
theorem aj.ayk {a a' b : V} {h : Hp} (hl : LeV a a') : aj 0 (.tup [a, b]) h (.tup [a', b]) h := by
 intro w0 m0 h0 av0 W m val e1 e2 hlt hle H hx hi
 refine ⟨m, H, ?_, hi⟩
 cases hx with
 | tup x vs ha hra =>
  refine .tup _ _ ha (fun i hi => ?_)
  match i, hi with
  | 0, _ => exact (hra 0 (by simp)).le hl
  | 1, _ => exact hra 1 (by simp)
def pz (K : List Int) : ah := ⟨fq K, ⟨ByteArray.empty, ByteArray.empty, 0⟩⟩
theorem q8 (K : List Int) : (cn K).length = K.length := by simp [cn]
theorem adw (K : List Int) (hk : K.length ≤ 16777216) (h : wB (fq K) = true) : Ctr Tryz.prog 24 [IntS.sl K] [] (.tup [(pz K).v, .bool true]) [] :=
 (xk K hk h).se (by
  refine aj.pick [] (by decide) (fun j hj => by omega) (.inl ?_) rfl
  have e1 := db (cs := bc.cs) (cn K)
  rw [q8] at e1
  simp [pz, fq, ah.v, ren, bb, posOf, ma, ab, q8] at e1 ⊢
  exact ⟨e1.symm, rfl⟩)
theorem afe (K : List Int) (hk : K.length ≤ 16777216) (h : wB (fq K) = true) : Ctr Tryz.prog 23 [IntS.sl K] [] (.tup [(pz K).v, .bool true]) [] := by
 by_cases hn : K = []
 · subst hn
   exact acz.se (aj.ayk (LeV.agg ⟨.inl rfl, LeE.nil, LeE.nil, .inl rfl, .inl rfl, .inl rfl, .inl rfl, .inl rfl, trivial⟩))
 · refine ((afi K hk hn h).se (r' := .tup [.agg [.int .i64 0, .sl K.length 3 (rows bc.cs (cn K)), .nilsl, .int .i64 1, .int .i64 0, .str ByteArray.empty, .str ByteArray.empty, .int .i64 0], .bool true]) (hout' := []) ?_).se (aj.ayk (LeV.agg ⟨.inl rfl, .inl ?_, LeE.nil, .inl rfl, .inl rfl, .inl rfl, .inl rfl, .inl rfl, trivial⟩))
   · refine aj.pick [] (by decide) (fun j hj => by omega) (.inl ?_) rfl
     have e1 := db (cs := bc.cs) (cn K)
     rw [q8] at e1
     simp [ren, bb, posOf, ma, ab] at e1 ⊢
     exact e1.symm
   · simp [pz, fq, q8]
theorem xq (s : ByteArray) : ∀ n, ∀ e ∈ (rdN s n).1, ic e = true
 | 0, e, h => by simp [rdN] at h
 | n + 1, e, h => by
  cases g : iu (rdN s n).1.length (s.extract (rdN s n).2 s.size) with
  | none => rw [nc g] at h; exact xq s n e h
  | some r =>
   rw [jh g] at h
   rcases List.mem_append.1 h with h | h
   · exact xq s n e h
   · simp only [List.mem_singleton] at h
     subst h
     exact (mu.1 (uo g).2.1).2.1
noncomputable def aau : ah → List aq → Nat
 | _, [] => 0
 | c, e :: es => if (dd c e.Command).2 = e.Reply then aau (dd c e.Command).1 es + 1 else 0
noncomputable def rj (c : ah) (L : List aq) : ah := L.foldl (fun c e => (dd c e.Command).1) c
theorem ab7 {c : ah} {L : List aq} {i : Nat} (h : i < L.length) : rj c (L.take (i + 1)) = (dd (rj c (L.take i)) L[i].Command).1 := by
 rw [List.take_succ_eq_append_getElem h, rj, List.foldl_append]; rfl
theorem ajc {c : ah} {L : List aq} (h : c.sz 0) : ∀ i, i ≤ L.length → (rj c (L.take i)).sz i
 | 0, _ => h
 | i + 1, hi => by
  rw [ab7 (show i < L.length by omega)]
  exact alh (ajc h i (by omega))
noncomputable def l5 (K : List Int) (l : Log) : V := if wB (fq K) && jd l then .tup [.int .i64 (aau (pz K) (bt (l.Durable ++ l.Pending)) : Nat), .bool true] else .tup [.int .i64 0, .bool false]
theorem aiv (K : List Int) (hk : K.length ≤ 1048576) : (pz K).sz 0 := by
 refine ⟨?_, ?_, ?_, ?_⟩ <;> simp [pz, fq, q8] <;> omega
theorem td (K : List Int) (l : Log) (hk : K.length ≤ 1048576) (hd : l.Durable.size ≤ 1048576) (hp : l.Pending.size ≤ 1048576) : Ctr Tryz.prog 21 [IntS.sl K, l.v] [] (l5 K l) [] := by
 have hr := afg l (by omega) (by omega)
 cases h1 : wB (fq K) with
 | false =>
  have hn := wy K (by omega) h1
  simp only [ag1] at hn
  rw [l5, h1]
  refine Ctr.intro Tryz.mixed Tryz.func21 rfl Tryz.aqv ?_
  refine ev2 @Tryz.ntmps21 @Tryz.results21 ?_
  refine rn1 @Log.v.eq_1 ?_
  (first | refine ak.at (hn) ⟨leA, trivial⟩ ?_ | refine ai.at (hn) ⟨leA, trivial⟩ ?_)
  refine rn1 @Log.v.eq_1 ?_
  (first | refine ak.at (hr) ⟨leA, trivial⟩ ?_ | refine ai.at (hr) ⟨leA, trivial⟩ ?_)
  refine rn2 @aef.eq_1 @agy.eq_1 ?_
  exact aj.au rfl (by rfl)
 | true =>
 have hn := afe K (by omega) h1
 have hz := aiv K hk
 have hB := xq (l.Durable ++ l.Pending) 60
 have h60 := (lq (l.Durable ++ l.Pending)).2.2.2
 rw [show (rdN (l.Durable ++ l.Pending) 60).1 = bt (l.Durable ++ l.Pending) from rfl] at hB
 unfold aef agy at hr
 rw [l5, h1]
 generalize bt (l.Durable ++ l.Pending) = M at *
 generalize pz K = c at *
 cases h2 : jd l with
 | false =>
  rw [h2] at hr
  refine Ctr.intro Tryz.mixed Tryz.func21 rfl Tryz.aqv ?_
  refine ev2 @Tryz.ntmps21 @Tryz.results21 ?_
  refine rn1 @Log.v.eq_1 ?_
  (first | refine ak.at (hn) ⟨leA, trivial⟩ ?_ | refine ai.at (hn) ⟨leA, trivial⟩ ?_)
  refine rn2 @Log.v.eq_1 @ah.v.eq_1 ?_
  (first | refine ak.at (hr) ⟨leA, trivial⟩ ?_ | refine ai.at (hr) ⟨leA, trivial⟩ ?_)
  refine rn0 ?_
  exact aj.au rfl (by rfl)
 | true =>
  rw [h2] at hr
  refine Ctr.intro Tryz.mixed Tryz.func21 rfl Tryz.aqv ?_
  refine ev2 @Tryz.ntmps21 @Tryz.results21 ?_
  refine rn1 @Log.v.eq_1 ?_
  (first | refine ak.at (hn) ⟨leA, trivial⟩ ?_ | refine ai.at (hn) ⟨leA, trivial⟩ ?_)
  refine rn2 @Log.v.eq_1 @ah.v.eq_1 ?_
  (first | refine ak.at (hr) ⟨leA, trivial⟩ ?_ | refine ai.at (hr) ⟨leA, trivial⟩ ?_)
  refine rn2 @ay @bf ?_
  refine dn.intro (fun i : Nat => i ≤ M.length ∧ aau c M = i + aau (rj c (M.take i)) (M.drop i)) (fun i => ⟨(un 6 (.ptr 1 0 :: .undef :: .osl 2 0 M.length 2 :: (un 20 (.osl 2 0 M.length 2 :: .int .i64 M.length :: .int .i64 i :: (un 19 []))))), [some l.cs, some (rj c (M.take i)).cs, some (rows aq.cs M)], 0⟩) (fun i => M.length - i) 0 ⟨Nat.zero_le _, by simp [rj]⟩ ?_ (fun i hi => ?_)
  · refine bo.cut (3) (by simp) (by simp) ?_ ?_
    · simp [LeC, LeV, ren, bh]
    · simp [cb, ck, ren, ab, dj, k9, Log.cs, ah.cs, rj]
  obtain ⟨hi, hrep⟩ := hi
  refine rn0 ?_
  refine aw.split (fun g1 => ?_) (fun g1 => ?_)
  · have hi' : i < M.length := by have := of_decide_eq_true g1; omega
    have hrow := bw aq.csl hi'
    have hst := ab7 (c := c) hi'
    have hszi := ajc hz i hi
    have hbd := s4 (hB _ (List.getElem_mem hi'))
    have hx := ag8 (rj c (M.take i)) M[i].Command (ah.aij hszi (by omega)) (by omega)
    rw [List.drop_eq_getElem_cons hi', aau, ← hst] at hrep
    generalize hd' : rj c (M.take (i + 1)) = d' at *
    generalize rj c (M.take i) = d at *
    rw [← hst] at hx
    refine rn4 @g1 @hrow @aq.cs.eq_1 @ah.cs.eq_1 ?_
    (first | refine ak.at (hx) ⟨leA, leA, trivial⟩ ?_ | refine ai.at (hx) ⟨leA, leA, trivial⟩ ?_)
    refine rn3 @ah.v.eq_1 @aq.cs.eq_1 @im ?_
    by_cases hq : (dd d M[i].Command).2 = M[i].Reply
    · rw [if_pos hq] at hrep
      (repeat ((repeat1' (first | simp -implicitDefEqProofs -dsimp only [go_sem, decide_eq_true hq] | simp -dsimp (disch := omega) only [wrap_i64])); repeat (with_reducible refine df ?_)))
      refine ⟨i + 1, ⟨hi', by rw [hd', hrep]; omega⟩, ?_, by omega⟩
      rw [hd']
      refine bo.cut (3) (by simp) (by simp) ?_ ?_
      · simp [LeC, LeV, ren, bh]
      · simp [cb, ck, ren, ab, dj, k9, Log.cs, ah.cs]
    · rw [if_neg hq, Nat.add_zero] at hrep
      (repeat ((repeat1' (first | simp -implicitDefEqProofs -dsimp only [go_sem, decide_eq_false hq] | simp -dsimp (disch := omega) only [wrap_i64])); repeat (with_reducible refine df ?_)))
      rw [hrep]
      exact aj.au rfl (by rfl)
  · have hi' : i = M.length := by have := of_decide_eq_false g1; omega
    subst hi'
    refine rn1 @g1 ?_
    rw [hrep, List.drop_length, aau, Nat.add_zero]
    exact aj.au rfl (by rfl)
theorem aga (K : List Int) (l : Log) (hk : K.length ≤ 1048576) (hd : l.Durable.size ≤ 1048576) (hp : l.Pending.size ≤ 1048576) : Ctr Tryz.prog 22 [IntS.sl K, l.v] [] (l5 K l) [] := by
 have hg := uk l (by omega) (by omega)
 have hr := afu l (by omega) (by omega)
 cases h1 : wB (fq K) with
 | false =>
  have hn := rf K (by omega) h1
  simp only [ag1] at hn
  rw [l5, h1]
  refine Ctr.intro Tryz.mixed Tryz.func22 rfl Tryz.aru ?_
  refine ev2 @Tryz.ntmps22 @Tryz.results22 ?_
  refine rn1 @Log.v.eq_1 ?_
  (first | refine ak.at (hn) ⟨leA, trivial⟩ ?_ | refine ai.at (hn) ⟨leA, trivial⟩ ?_)
  refine rn1 @Log.v.eq_1 ?_
  exact aj.au rfl (by rfl)
 | true =>
 have hn := adw K (by omega) h1
 have hz := aiv K hk
 rw [l5, h1]
 generalize pz K = c at *
 cases h2 : jd l with
 | false =>
  rw [h2] at hg
  refine Ctr.intro Tryz.mixed Tryz.func22 rfl Tryz.aru ?_
  refine ev2 @Tryz.ntmps22 @Tryz.results22 ?_
  refine rn1 @Log.v.eq_1 ?_
  (first | refine ak.at (hn) ⟨leA, trivial⟩ ?_ | refine ai.at (hn) ⟨leA, trivial⟩ ?_)
  refine rn2 @Log.v.eq_1 @ah.v.eq_1 ?_
  (first | refine ak.at (hg) ⟨leA, trivial⟩ ?_ | refine ai.at (hg) ⟨leA, trivial⟩ ?_)
  refine rn0 ?_
  exact aj.au rfl (by rfl)
 | true =>
  have hB := xq (l.Durable ++ l.Pending) 60
  have h60 := (lq (l.Durable ++ l.Pending)).2.2.2
  rw [show (rdN (l.Durable ++ l.Pending) 60).1 = bt (l.Durable ++ l.Pending) from rfl] at hB
  rw [h2] at hg
  rw [r7, if_pos h2] at hr
  simp only [yy, r5] at hr
  generalize bt (l.Durable ++ l.Pending) = M at *
  refine Ctr.intro Tryz.mixed Tryz.func22 rfl Tryz.aru ?_
  refine ev2 @Tryz.ntmps22 @Tryz.results22 ?_
  refine rn1 @Log.v.eq_1 ?_
  (first | refine ak.at (hn) ⟨leA, trivial⟩ ?_ | refine ai.at (hn) ⟨leA, trivial⟩ ?_)
  refine rn2 @Log.v.eq_1 @ah.v.eq_1 ?_
  (first | refine ak.at (hg) ⟨leA, trivial⟩ ?_ | refine ai.at (hg) ⟨leA, trivial⟩ ?_)
  refine rn1 @Log.v.eq_1 ?_
  (first | refine ak.at (hr) ⟨leA, trivial⟩ ?_ | refine ai.at (hr) ⟨leA, trivial⟩ ?_)
  refine rn2 @ay @bf ?_
  refine dn.intro (fun i : Nat => i ≤ M.length ∧ aau c M = i + aau (rj c (M.take i)) (M.drop i)) (fun i => ⟨(un 6 (.ptr 1 0 :: .undef :: .osl 2 0 M.length 2 :: .undef :: .undef :: .int .i64 i :: (un 43 []))), [some l.cs, some (rj c (M.take i)).cs, some (rows aq.cs M)], 0⟩) (fun i => M.length - i) 0 ⟨Nat.zero_le _, by simp [rj]⟩ ?_ (fun i hi => ?_)
  · refine bo.cut (3) (by simp) (by simp) ?_ ?_
    · simp [LeC, LeV, ren, bh]
    · simp [cb, ck, ren, ab, dj, k9, Log.cs, ah.cs, rj]
  obtain ⟨hi, hrep⟩ := hi
  refine rn0 ?_
  refine aw.split (fun g1 => ?_) (fun g1 => ?_)
  · have hi' : i < M.length := by have := of_decide_eq_true g1; omega
    have hc0 : List.take 1 (List.drop (i * 2 + 0) (rows aq.cs M)) = [.str M[i].Command] := by rw [zf aq.csl hi' 0]; rfl
    have hc1 : List.take 1 (List.drop (i * 2 + 1) (rows aq.cs M)) = [.str M[i].Reply] := by rw [zf aq.csl hi' 1]; rfl
    have hst := ab7 (c := c) hi'
    have hszi := ajc hz i hi
    have hbd := s4 (hB _ (List.getElem_mem hi'))
    have hx := afm (rj c (M.take i)) M[i].Command (ah.aij hszi (by omega)) (by omega)
    rw [List.drop_eq_getElem_cons hi', aau, ← hst] at hrep
    generalize hd' : rj c (M.take (i + 1)) = d' at *
    generalize rj c (M.take i) = d at *
    rw [← hst] at hx
    refine rn3 @g1 @hc0 @ah.cs.eq_1 ?_
    (first | refine ak.at (hx) ⟨leA, leA, trivial⟩ ?_ | refine ai.at (hx) ⟨leA, leA, trivial⟩ ?_)
    refine rn3 @ah.v.eq_1 @im @hc1 ?_
    by_cases hq : (dd d M[i].Command).2 = M[i].Reply
    · rw [if_pos hq] at hrep
      (repeat ((repeat1' (first | simp -implicitDefEqProofs -dsimp only [go_sem, decide_eq_true hq] | simp -dsimp (disch := omega) only [wrap_i64])); repeat (with_reducible refine df ?_)))
      refine ⟨i + 1, ⟨hi', by rw [hd', hrep]; omega⟩, ?_, by omega⟩
      rw [hd']
      refine bo.cut (3) (by simp) (by simp) ?_ ?_
      · simp [LeC, LeV, ren, bh]
      · simp [cb, ck, ren, ab, dj, k9, Log.cs, ah.cs]
    · rw [if_neg hq, Nat.add_zero] at hrep
      (repeat ((repeat1' (first | simp -implicitDefEqProofs -dsimp only [go_sem, decide_eq_false hq] | simp -dsimp (disch := omega) only [wrap_i64])); repeat (with_reducible refine df ?_)))
      rw [hrep]
      exact aj.au rfl (by rfl)
  · have hi' : i = M.length := by have := of_decide_eq_false g1; omega
    subst hi'
    refine rn1 @g1 ?_
    rw [hrep, List.drop_length, aau, Nat.add_zero]
    exact aj.au rfl (by rfl)
end Go.Proofs
end
section
set_option maxRecDepth 100000
set_option maxHeartbeats 4000000
namespace Go.Proofs
open Go.Lv
def a3y (r : V) (hout : Hp) : Prop := ∃ (K : List Int) (l : Log), K.length ≤ 10 ∧ l.Durable.size ≤ 200000 ∧ l.Pending.size ≤ 200000 ∧ r = .tup [IntS.sl K, l.v] ∧ hout = []
theorem asz (l : Log) (e : aq) (hd : l.Durable.size ≤ 200000) (hp : l.Pending.size ≤ 200000) : ∃ (l' : Log) (n : Int), x9 l e = [l'.v, .int .i64 n] ∧ l'.Durable.size ≤ 200000 ∧ l'.Pending.size ≤ 200000 := by
 unfold x9
 split
 · rename_i h
   split
   · exact ⟨l, 2, rfl, hd, hp⟩
   · have h3 := afq h.1
     have h4 := kf h.1
     have hk : 0 ≤ l.Count ∧ l.Count ≤ 59 := by omega
     have z1 := u4 (k := l.Count) (by omega) h.2
     refine ⟨⟨l.Durable, l.Pending ++ cf l.Count e, l.Count + 1⟩, 0, rfl, hd, ?_⟩
     simp only [ByteArray.size_append]
     omega
 · exact ⟨l, 1, rfl, hd, hp⟩
theorem ar6 {K : List Int} (h : wB (fq K) = true) : dC 0 (pz K) := by
 obtain ⟨g1, g2, g3⟩ := ajf h
 exact ⟨⟨g1, atm h⟩, ⟨by show (fq K).Posts.length ≤ 100; omega, by show (fq K).Shocks.length ≤ 100; omega⟩, by simp [pz], by simp [pz], by simp [pz, bu]⟩
theorem abz {B : List Int} (hB : CB B) : lr Tryz.prog 20 [ByteS.sl B] [] a3y := by
 have hcb : ∀ {c' : Cur} {k' : Int}, c'.le k' → k' ≤ 4000000 → c'.le 4611686018427387903 := fun h h' => ⟨h.1, by have := h.2; omega⟩
 obtain ⟨c, hcd⟩ : ∃ c : Cur, c = ⟨0, 0⟩ := ⟨_, rfl⟩
 have hc : c.le 0 := by rw [hcd]; exact ⟨Int.le_refl 0, Int.le_refl 0⟩
 have hcc : c.cs B = [ByteS.sl B, .int .i64 0, .int .u64 0] := by rw [hcd]; rfl
 refine lr.intro Tryz.mixed Tryz.func20 rfl Tryz.a68 ?_
 refine ev2 @Tryz.ntmps20 @Tryz.results20 ?_
 refine rs1 @ByteS.sl.eq_1 ?_
 rw [← ByteS.sl, ← hcc]
 refine ai.rel [1] (ug hB (by omega) hc) (by decide) ⟨leO, trivial⟩ (dm rfl) rfl (fun r hout hΦ => ?_)
 obtain ⟨K, c1, hK, hc1, rfl, rfl⟩ := hΦ
 refine ⟨⟨⟨rfl, rfl⟩, trivial⟩, ?_⟩
 refine rs3 @Cur.ren @ab @List.getElem?_nil.{0} ?_
 have e0 := db (cs := IntS.cs) K
 rw [Nat.mul_one] at e0
 cases hw : wB (fq K) with
 | false =>
  have cs := rf K (by omega) hw
  (first | refine ak.at (cs) ⟨leA, trivial⟩ ?_ | refine ai.at (cs) ⟨leA, trivial⟩ ?_)
  refine rs1 @ag1.eq_1 ?_
  refine ⟨_, _, ⟨K, ⟨ByteArray.empty, ByteArray.empty, 0⟩, hK, by simp, by simp, rfl, rfl⟩, aj.pick [] (by decide) (fun j hj => by omega) (.inl ?_) rfl⟩
  · simp [ren, bb, posOf, ma, Log.v, IntS.sl, e0, ab]
 | true =>
  have cs := xk K (by omega) hw
  have hs0 := ar6 hw
  (first | refine ak.at (cs) ⟨leA, trivial⟩ ?_ | refine ai.at (cs) ⟨leA, trivial⟩ ?_)
  refine rs0 ?_
  refine gj hB hc1 (by omega) 12 (by omega) rfl (fun vc2 c2 pvc2 hc2 => ?_)
  refine rs2 @Cur.ren @ab ?_
  obtain ⟨n0, hn0⟩ : ∃ n : Nat, vc2 = n := ⟨vc2.toNat, by omega⟩
  subst hn0
  refine dn.intro (fun x : Nat × ah × Cur => x.1 ≤ 12 ∧ dC (12 - x.1) x.2.1 ∧ x.2.2.le (102 + 100 * (12 - (x.1 : Int)))) (fun x => ⟨(un 3 (.ptr 0 0 :: .ptr 1 0 :: .osl 2 0 K.length 1 :: .ptr 3 0 :: .undef :: .int .i64 x.1 :: (un 42 []))), [some Log.zs, some (x.2.2.cs B), some (rows IntS.cs K), some x.2.1.cs], 0⟩) (fun x => x.1) (n0, pz K, c2) ⟨by simp only []; omega, hs0.mono (by simp only []; omega), fa hc2 (by simp only []; omega)⟩ ?_ (fun x hx => ?_)
  · have e1 := db (cs := bc.cs) (cn K)
    rw [q8] at e1
    refine bo.pick [0, 1, 2, 5] (by decide) (fun j hj => by omega) ?_ ?_
    · simp [LeG, LeC, LeV, ren, bb, posOf]
    · simp [az, bg, bb, posOf, ma, Cur.ren, ren, Log.zs, ah.cs, ab, pz, fq, q8, e1]
      rfl
  obtain ⟨n, s, c3⟩ := x
  obtain ⟨x1, hs, hc3⟩ := hx
  dsimp only at x1 hs hc3
  have hfs := hs.fits (by omega)
  refine ev0 ?_
  refine aw.split (fun h1 => ?_) (fun h1 => ?_)
  · have hn : 0 < n := by have := of_decide_eq_true h1; omega
    refine rs1 @h1 ?_
    refine clT.tree (fun s2 => ∃ (s' : ah) (c4 : Cur), dC (12 - n + 1) s' ∧ c4.le (102 + 100 * (12 - (n : Int)) + 60) ∧ s2 = ⟨(un 3 (.ptr 0 0 :: .ptr 1 0 :: .osl 2 0 K.length 1 :: .ptr 3 0 :: .undef :: .int .i64 n :: (un 42 []))), [some Log.zs, some (c4.cs B), some (rows IntS.cs K), some s'.cs], 0⟩) (.take 1 (.alt 0 (.alt 2 (.alt 3 (.alt 4 (.take 5 (.take 6 (.take 7 (.alt 8 .done .stop)))) .stop) .stop) .stop) (.alt 2 (.alt 0 (.alt 3 (.alt 4 (.take 5 (.take 6 (.take 7 (.alt 8 .done .stop)))) .stop) .stop) (.alt 3 (.alt 0 (.alt 4 (.take 5 (.take 6 (.take 7 (.alt 8 .done .stop)))) .stop) .stop) .stop)) .stop))) (by kernel_rfl) (fun s2 hs2 => ?_) ?_
    · obtain ⟨s', c4, hs', hc4, rfl⟩ := hs2
      have hn1 : ((n - 1 : Nat) : Int) = (n : Int) - 1 := by omega
      refine rs1 @ah.cs.eq_1 ?_
      refine ⟨(n - 1, s', c4), ⟨by simp only []; omega, hs'.mono (by simp only []; omega), fa hc4 (by simp only []; omega)⟩, ?_, by simp only []; omega⟩
      refine bo.cut (4) (by simp) (by simp) ?_ ?_
      · simp [LeC, LeV, ren, bh, hn1]
      · simp [cb, ck, bh, Cur.ren, ren, Log.zs, ah.cs, ab]
    · refine rs1 @ah.cs.eq_1 ?_
      repeat' (first | (refine ai.rel [1] (vq hB (by omega) hc3 s hs) (by decide) ⟨leO, leO, trivial⟩ (dm rfl) rfl (fun r hout hΦ => ?_); obtain ⟨line, c4, hl, hc4, rfl, rfl⟩ := hΦ; refine ⟨⟨⟨rfl, rfl⟩, trivial⟩, ?_⟩; have cs := afm s line hfs (by omega); refine rs3 @Cur.ren @ah.v.eq_1 @ah.cs.eq_1 ?_) | ((first | refine ak.at (cs) ⟨leA, leA, trivial⟩ ?_ | refine ai.at (cs) ⟨leA, leA, trivial⟩ ?_); refine rs3 @Cur.ren @ah.v.eq_1 @ah.cs.eq_1 ?_) | (refine And.intro ?_ ?_) | exact trivial)
      all_goals
       refine ⟨_, ⟨(dd s line).1, c4, hs.exec line, fa hc4 (by omega), rfl⟩, ?_⟩
       refine bo.cut (4) (by simp) (by simp) ?_ ?_
       · simp [LeC, LeV, ren, bh]
       · simp [cb, ck, bh, Cur.ren, ren, Log.zs, ah.cs, ab]
  · obtain ⟨_, _, d1, d2, d3⟩ := hs
    refine rs3 @h1 @ah.cs.eq_1 @Log.zs.eq_1 ?_
    refine eb hB hc3 (by omega) 3 (by omega) rfl (fun vc5 c5 hc5 => ?_)
    refine rs3 @Cur.ren @ab @Log.zs.eq_1 ?_
    refine aw.split (fun h6 => ?_) (fun h6 => ?_)
    · refine rs1 @h6 ?_
      refine clT.tree (fun s2 => ∃ (l' : Log) (c6 : Cur), l'.Durable.size ≤ 200000 ∧ l'.Pending.size ≤ 200000 ∧ s2 = ⟨(un 3 (.ptr 0 0 :: .undef :: .osl 2 0 K.length 1 :: (un 3 (.ptr 4 0 :: (un 41 []))))), [some Log.zs, some (c6.cs B), some (rows IntS.cs K), some s.cs, some l'.cs], 0⟩) (.take 1 (.alt 0 (.alt 2 (.alt 3 (.take 4 (.take 5 (.take 6 (.alt 7 .done .stop)))) .stop) .stop) (.alt 2 (.alt 0 (.alt 3 (.take 4 (.take 5 (.take 6 (.alt 7 .done .stop)))) .stop) .stop) .stop))) (by kernel_rfl) (fun s2 hs2 => ?_) ?_
      · obtain ⟨l', c6, y1, y2, rfl⟩ := hs2
        refine rs3 @Log.zs.eq_1 @Log.cs.eq_1 @ah.cs.eq_1 ?_
        refine n8.tree (.take 0 (.alt 1 (.alt 2 (.alt 3 .done .stop) .stop) (.alt 2 (.alt 1 (.alt 3 .done .stop) .stop) .stop))) (by kernel_rfl) ?_
        refine rs0 ?_
        repeat' (refine And.intro ?_ ?_)
        all_goals first
         | exact trivial
         | (refine ⟨_, _, ⟨K, l', hK, y1, y2, rfl, rfl⟩, aj.pick [] (by decide) (fun j hj => by omega) (.inl ?_) rfl⟩
            · simp [ren, bb, posOf, ma, Log.v, IntS.sl, e0, ab])
      · refine rs2 @ah.cs.eq_1 @Cur.ren ?_
        obtain ⟨l0, el0⟩ : ∃ l0 : Log, l0 = s.Log := ⟨_, rfl⟩
        repeat' (first | (refine ai.rel [1] (aak hB (by omega) hc5) (by decide) ⟨leO, trivial⟩ (dm rfl) rfl (fun r hout hΦ => ?_); obtain ⟨e, c6, he1, he2, hc6, rfl, rfl⟩ := hΦ; refine ⟨⟨⟨rfl, rfl⟩, trivial⟩, ?_⟩; obtain ⟨l2, n2, e2, z1, z2⟩ := asz s.Log e (by omega) (by omega); have ha := ot s.Log e (by omega) (by omega) (by omega) (by omega); rw [e2] at ha; refine rs3 @Cur.ren @aq.v.eq_1 @Log.v.eq_1 ?_) | ((first | refine ak.at (ha) ⟨leA, leA, trivial⟩ ?_ | refine ai.at (ha) ⟨leA, leA, trivial⟩ ?_); refine rs2 @Cur.ren @Log.v.eq_1 ?_) | (refine And.intro ?_ ?_) | exact trivial)
        all_goals
         refine ⟨_, ⟨l2, c6, z1, z2, rfl⟩, ?_⟩
         refine bo.cut (5) (by simp) (by simp) ?_ ?_
         · simp [LeC, LeV, ren, bh]
         · simp [cb, ck, bh, Cur.ren, ren, Log.zs, Log.cs, ah.cs, ab]
    · refine rs1 @h6 ?_
      refine n8.tree (.take 0 (.alt 1 (.alt 2 (.alt 3 .done .stop) .stop) (.alt 2 (.alt 1 (.alt 3 .done .stop) .stop) .stop))) (by kernel_rfl) ?_
      refine rs0 ?_
      repeat' (refine And.intro ?_ ?_)
      all_goals first
       | exact trivial
       | (refine ⟨_, _, ⟨K, s.Log, hK, by omega, by omega, rfl, rfl⟩, aj.pick [] (by decide) (fun j hj => by omega) (.inl ?_) rfl⟩
          · simp [ren, bb, posOf, ma, Log.v, IntS.sl, e0, ab])
end Go.Proofs
end
section
set_option maxRecDepth 100000
set_option maxHeartbeats 2000000
namespace Go.Proofs
open Go.Lv
theorem anp (L : List Int) : Ctr Tryz.prog 6 [ByteS.sl L] [] (.bool (decide (65536 < (L.length : Int)))) [] := by
 refine Ctr.intro Tryz.mixed Tryz.func6 rfl Tryz.okF6 ?_
 refine ev2 @Tryz.ntmps6 @Tryz.results6 ?_
 refine rn0 ?_
 exact aj.au rfl (by rfl)
theorem ao8 (L : List bc) (hl : L.length ≤ 1048576) : Ctr Tryz.prog 85 [bc.sl L, bc.sl L] [] (.bool true) [] := by
 refine Ctr.intro Tryz.mixed Tryz.func85 rfl Tryz.a4j ?_
 refine ev2 @Tryz.ntmps85 @Tryz.results85 ?_
 refine rn0 ?_
 refine dn.intro (fun i : Nat => i ≤ L.length) (fun i => ⟨(bc.sl L :: bc.sl L :: (un 3 (.int .i64 i :: (un 20 [])))), [], 0⟩) (fun i => L.length - i) 0 (Nat.zero_le _) ?_ (fun i hi => ?_)
 · refine bo.cut (0) (by simp) (by simp) ?_ ?_
   · simp [LeC, LeV, ren, bh]
   · rfl
 refine ev0 ?_
 refine aw.split (fun h1 => ?_) (fun h1 => ?_)
 · have hi' : i < L.length := by simpa using h1
   have hr := bw bc.csl hi'
   refine rn3 @h1 @hr @bc.cs.eq_1 ?_
   refine ⟨i + 1, hi', ?_, by omega⟩
   refine bo.cut (0) (by simp) (by simp) ?_ ?_
   · simp [LeC, LeV, ren, bh]
   · rfl
 · refine rn1 @h1 ?_
   exact aj.au rfl (by rfl)
theorem ama (L : List al) (hl : L.length ≤ 1048576) : Ctr Tryz.prog 86 [al.sl L, al.sl L] [] (.bool true) [] := by
 refine Ctr.intro Tryz.mixed Tryz.func86 rfl Tryz.a3l ?_
 refine ev2 @Tryz.ntmps86 @Tryz.results86 ?_
 refine rn0 ?_
 refine dn.intro (fun i : Nat => i ≤ L.length) (fun i => ⟨(al.sl L :: al.sl L :: (un 3 (.int .i64 i :: (un 20 [])))), [], 0⟩) (fun i => L.length - i) 0 (Nat.zero_le _) ?_ (fun i hi => ?_)
 · refine bo.cut (0) (by simp) (by simp) ?_ ?_
   · simp [LeC, LeV, ren, bh]
   · rfl
 refine ev0 ?_
 refine aw.split (fun h1 => ?_) (fun h1 => ?_)
 · have hi' : i < L.length := by simpa using h1
   have hr := bw al.csl hi'
   refine rn3 @h1 @hr @al.cs.eq_1 ?_
   refine ⟨i + 1, hi', ?_, by omega⟩
   refine bo.cut (0) (by simp) (by simp) ?_ ?_
   · simp [LeC, LeV, ren, bh]
   · rfl
 · refine rn1 @h1 ?_
   exact aj.au rfl (by rfl)
theorem aop (w : ae) (hp : w.Posts.length ≤ 1048576) (hs : w.Shocks.length ≤ 1048576) : Ctr Tryz.prog 41 [w.v, w.v] [] (.bool true) [] := by
 refine Ctr.intro Tryz.mixed Tryz.func41 rfl Tryz.a5k ?_
 refine ev2 @Tryz.ntmps41 @Tryz.results41 ?_
 refine rn1 @ae.v.eq_1 ?_
 (have ct := ao8 w.Posts hp; (first | refine ak.at ct ⟨leA, leA, trivial⟩ ?_ | refine ai.at ct ⟨leA, leA, trivial⟩ ?_); clear ct)
 refine rn0 ?_
 (have ct := ama w.Shocks hs; (first | refine ak.at ct ⟨leA, leA, trivial⟩ ?_ | refine ai.at ct ⟨leA, leA, trivial⟩ ?_); clear ct)
 refine rn0 ?_
 exact aj.au rfl (by rfl)
end Go.Proofs
end
section
set_option maxRecDepth 100000
set_option maxHeartbeats 2000000
namespace Go.Proofs
open Go.Lv
theorem acj (c : ah) (hp : c.ae.Posts.length ≤ 1048576) (hs : c.ae.Shocks.length ≤ 1048576) : Ctr Tryz.prog 10 [c.v, c.v] [] (.bool true) [] := by
 refine Ctr.intro Tryz.mixed Tryz.func10 rfl Tryz.a67 ?_
 refine ev2 @Tryz.ntmps10 @Tryz.results10 ?_
 refine rn1 @ah.v.eq_1 ?_
 (have ct := aop c.ae hp hs; (first | refine ak.at ct ⟨leA, leA, trivial⟩ ?_ | refine ai.at ct ⟨leA, leA, trivial⟩ ?_); clear ct)
 refine rn1 @beq_self_eq_true.{0} ?_
 exact aj.au (by simp) (by rfl)
end Go.Proofs
end
section
set_option maxRecDepth 100000
set_option maxHeartbeats 2000000
namespace Go.Proofs
open Go.Lv
theorem ac7 (s : ByteArray) (hs : s.size ≤ 2000) : Ctr Tryz.prog 17 [.str s, .str ⟨#[10]⟩] [] (.tup [StringS.sl (jv 10 s), .bool true]) [] := by
 have h1 : decide ((4000 : Int) < (s.size : Int)) = false := decide_eq_false (by omega)
 have hz : ((((#[10] : Array UInt8).size : Nat) : Int) != 1) = false := rfl
 have hc := acp s 10 (by omega)
 refine Ctr.intro Tryz.mixed Tryz.func17 rfl Tryz.a7n ?_
 refine ev2 @Tryz.ntmps17 @Tryz.results17 ?_
 refine rs2 @h1 @hz ?_
 refine ⟨by decide, ?_⟩
 (first | refine ak.at (hc) ⟨leA, leA, trivial⟩ ?_ | refine ai.at (hc) ⟨leA, leA, trivial⟩ ?_)
 refine rs0 ?_
 exact aj.refl _ _ _
end Go.Proofs
end
section
set_option maxRecDepth 100000
set_option maxHeartbeats 1000000
namespace Go.Proofs
open Go.Lv
def afb (b : ByteArray) : ByteArray := strOfNums ((sc b).set (b.size - 1) (255 - (sc b).getD (b.size - 1) 0))
def ajz (l : Log) (k : Int) (t : Bool) : ByteArray := if t = true ∧ 0 < k then afb (l.Pending.extract 0 k.toNat) else l.Pending.extract 0 k.toNat
def xt (l : Log) (k : Int) : Bool := jd l && ep k 0 l.Pending.size
def yu (l : Log) (k : Int) (t : Bool) : List V := if xt l k = true then [.str (l.Durable ++ ajz l k t), .bool true] else [.str ByteArray.empty, .bool false]
theorem ajd (D x : ByteArray) (h : 0 < x.size) : afb (D ++ x) = D ++ afb x := by
 unfold afb
 rw [aju, ByteArray.size_append]
 have e : D.size + x.size - 1 = (sc D).length + (x.size - 1) := by rw [tq]; omega
 rw [e, List.set_append_right _ _ (by omega), Nat.add_sub_cancel_left, abg, nw]
 congr 3
 rw [List.getD_eq_getElem?_getD, List.getD_eq_getElem?_getD, List.getElem?_append_right (by omega), Nat.add_sub_cancel_left]
theorem wrap_u8' {x : Int} (h0 : 0 ≤ x) (h1 : x ≤ 255) : IntKind.u8.wrap x = x := by
 unfold IntKind.wrap IntKind.signed IntKind.bits
 simp
 omega
theorem aql {L : List Int} {j : Nat} {v : Int} (hj : j < L.length) : dq (rows ByteS.cs L) (j * 1) [.int .u8 v] = rows ByteS.cs (L.set j v) := by
 have := pb (cs := ByteS.cs) (w := 1) (fun _ => rfl) (L := L) (j := j) (f := 0) (v := .int .u8 v) (x := v) hj (by omega) rfl
 simpa using this
theorem aip (l : Log) (k : Int) (t : Bool) (hd : l.Durable.size ≤ 4194304) (hp : l.Pending.size ≤ 4194304) : Ctr Tryz.prog 25 [l.v, .int .i64 k, .bool t] [] (.tup (yu l k t)) [] := by
 refine Ctr.intro Tryz.mixed Tryz.func25 rfl Tryz.a4b ?_
 refine ev2 @Tryz.ntmps25 @Tryz.results25 ?_
 refine rs1 @Log.v.eq_1 ?_
 (have ct := rk l hd hp; (first | refine ak.at ct ⟨leA, trivial⟩ ?_ | refine ai.at ct ⟨leA, trivial⟩ ?_); clear ct)
 cases h : jd l with
 | false =>
  refine rs1 @h ?_
  exact aj.au (by simp [yu, xt, h]; rfl) (by rfl)
 | true =>
  refine rs1 @h ?_
  (have ct := j4 k 0 l.Pending.size; (first | refine ak.at ct ⟨leA, leA, leA, trivial⟩ ?_ | refine ai.at ct ⟨leA, leA, leA, trivial⟩ ?_); clear ct)
  refine rs0 ?_
  cases hk : ep k 0 l.Pending.size with
  | false =>
   refine rs1 @hk ?_
   exact aj.au (by simp [yu, xt, h, hk]; rfl) (by rfl)
  | true =>
   refine rs1 @hk ?_
   obtain ⟨k0, k1⟩ := gg.1 hk
   obtain ⟨q, rfl⟩ : ∃ q : Nat, k = q := ⟨k.toNat, by omega⟩
   have hxs : (l.Pending.extract 0 q).size = q := by rw [ByteArray.size_extract]; omega
   have hxe : yu l q t = [.str (l.Durable ++ ajz l q t), .bool true] := by simp [yu, xt, h, hk]
   rw [hxe]
   refine ⟨⟨k0, k1⟩, by simp only [Int.toNat_natCast]; omega, ?_⟩
   simp only [Int.toNat_natCast, ou]
   have hkt : ajz l q t = if t = true ∧ 0 < q then afb (l.Pending.extract 0 q) else l.Pending.extract 0 q := by simp [ajz]
   rw [hkt]
   generalize l.Pending.extract 0 q = x at hxs ⊢
   obtain ⟨X, hX⟩ : ∃ X, X = l.Durable ++ x := ⟨_, rfl⟩
   have hXs : X.size = l.Durable.size + q := by rw [hX, ByteArray.size_append, hxs]
   have fin : ∀ Y : ByteArray, strOfNums ((sc Y).drop 0 |>.take Y.size) = Y := fun Y => by
    rw [List.drop_zero, List.take_of_length_le (by rw [tq]; exact Nat.le_refl _), nw]
   rw [← hX]
   have tk : ∀ L : List Int, L.length = X.size → oa (List.take X.size (rows ByteS.cs L)) = some L := fun L hL => by
    rw [List.take_of_length_le (by rw [ay, hL]; omega), ali]
   cases t with
   | false =>
    refine rs0 ?_
    rw [ou, tk _ (tq X)]
    exact aj.au (by simp [nw, hX]) (by rfl)
   | true =>
    refine rs0 ?_
    refine aw.split (fun g => ?_) (fun g => ?_)
    · have hq : 0 < q := by simpa using g
      obtain ⟨j, hj⟩ : ∃ j, j + 1 = X.size := ⟨X.size - 1, by omega⟩
      have hw : IntKind.i64.wrap ((X.size : Int) - 1) = (j : Int) := by rw [wrap_i64 (by omega) (by omega)]; omega
      have hjl : j < (sc X).length := by rw [tq]; omega
      have hr := bw ByteS.csl hjl
      have hu := aus (List.getElem_mem hjl)
      have hw8 : IntKind.u8.wrap (255 - (sc X)[j]) = 255 - (sc X)[j] := wrap_u8' (by omega) (by omega)
      have hs := aql (v := 255 - (sc X)[j]) hjl
      refine rs7 @g @hw @ou @hr @ByteS.cs.eq_1 @hw8 @hs ?_
      have hfl : strOfNums ((sc X).set j (255 - (sc X)[j])) = l.Durable ++ afb x := by
       rw [← ajd l.Durable x (by omega), ← hX, afb]
       have e : X.size - 1 = j := by omega
       rw [e, List.getD_eq_getElem?_getD, List.getElem?_eq_getElem hjl]
       rfl
      rw [tk _ (by rw [List.length_set, tq])]
      exact aj.au (by simp [hfl, hq]) (by rfl)
    · have hq : ¬ 0 < q := by simpa using g
      refine rs1 @g ?_
      rw [ou, tk _ (tq X)]
      exact aj.au (by simp [nw, hX, hq]) (by rfl)
end Go.Proofs
end
section
set_option maxRecDepth 100000
set_option maxHeartbeats 1000000
namespace Go.Proofs
open Go.Lv
theorem ak0 (s : ByteArray) (n : Nat) : ∀ m, ∃ l, (rdN s (n + m)).1 = (rdN s n).1 ++ l ∧ (rdN s n).2 ≤ (rdN s (n + m)).2
 | 0 => ⟨[], by simp, Nat.le_refl _⟩
 | m + 1 => by
  obtain ⟨l, h1, h2⟩ := ak0 s n m
  have e : n + (m + 1) = (n + m) + 1 := by omega
  cases g : iu ((rdN s (n + m)).1.length : Int) (s.extract (rdN s (n + m)).2 s.size) with
  | none => exact ⟨l, by rw [e, nc g, h1], by rw [e, nc g]; exact h2⟩
  | some r => exact ⟨l ++ [r.1], by rw [e, jh g, h1, List.append_assoc], by rw [e, jh g]; dsimp only; omega⟩
theorem asr (Y R : ByteArray) : (∃ l, bt (Y ++ R) = bt Y ++ l) ∧ ga Y ≤ ga (Y ++ R) := by
 obtain ⟨a1, a2, a3, a4⟩ := lq Y
 have hp := ahw (P := R) a1
 obtain ⟨l, h1, h2⟩ := ak0 (Y ++ R) (bt Y).length (60 - (bt Y).length)
 have e : (bt Y).length + (60 - (bt Y).length) = 60 := by omega
 rw [e, hp, ← a2] at h1 h2
 exact ⟨⟨l, h1⟩, h2⟩
end Go.Proofs
end
section
set_option maxRecDepth 100000
set_option maxHeartbeats 1000000
namespace Go.Proofs
open Go.Lv
attribute [local irreducible] dd bt ga jd fq
def alx : ah → List aq → Prop
 | _, [] => True
 | c, e :: es => (dd c e.Command).2 = e.Reply ∧ alx (dd c e.Command).1 es
theorem ae3 : ∀ (c : ah) (L : List aq), alx c L → aau c L = L.length
 | _, [], _ => rfl
 | c, e :: es, h => by rw [aau, if_pos h.1, ae3 _ es h.2, List.length_cons]
theorem apm (c : ah) (L : List aq) (e : aq) : rj c (L ++ [e]) = (dd (rj c L) e.Command).1 := by rw [rj, List.foldl_append]; rfl
theorem agn : ∀ (c : ah) (L : List aq) (e : aq), alx c L → (dd (rj c L) e.Command).2 = e.Reply → alx c (L ++ [e])
 | _, [], e, _, h => ⟨h, trivial⟩
 | c, x :: L, e, h, he => ⟨h.1, agn _ L e h.2 he⟩
theorem aj8 : ∀ (c : ah) (L M : List aq), alx c (L ++ M) → alx c L
 | _, [], _, _ => trivial
 | c, x :: L, M, h => ⟨h.1, aj8 _ L M h.2⟩
def y9 (c0 c : ah) : Prop := ni c = true ∧ rj c0 (yb c) = c ∧ alx c0 (yb c)
theorem ajq {c0 c : ah} (h : y9 c0 c) (line : ByteArray) : y9 c0 (dd c line).1 := by
 have hx := aen c line
 have hr := fun h0 h1 h2 h3 h4 => as5 (c := c) (line := line) h0 h1 h2 h3 h4
 have hs := apm c0 (yb c)
 have ha := agn c0 (yb c)
 have h1 := h.1
 have h2 := h.2.1
 have h3 := h.2.2
 rw [h2] at ha
 simp only [h2] at hs
 have hse := hs ⟨line, (dd c line).2⟩
 have hae := fun k => ha ⟨line, (dd c line).2⟩ h3 k
 dsimp only at hse hae
 generalize dd c line = x at *
 cases hx with
 | inl hx => rw [hx.1]; exact h
 | inr hx =>
  have g := hr hx.1 hx.2.1 hx.2.2.1 hx.2.2.2.1 hx.2.2.2.2.2
  refine ⟨g.1, ?_, ?_⟩
  · rw [g.2.1, hse]
  · rw [g.2.1]
    exact hae rfl
noncomputable def ajo (c : ah) (L : List ByteArray) : ah := L.foldl (fun c l => (dd c l).1) c
theorem abk {c : ah} {L : List ByteArray} {i : Nat} (h : i < L.length) : ajo c (L.take (i + 1)) = (dd (ajo c (L.take i)) L[i]).1 := by
 rw [List.take_succ_eq_append_getElem h, ajo, List.foldl_append]; rfl
theorem aa7 {c0 c : ah} (h : y9 c0 c) (L : List ByteArray) : ∀ i, i ≤ L.length → y9 c0 (ajo c (L.take i))
 | 0, _ => h
 | i + 1, hi => by
  rw [abk (show i < L.length by omega)]
  exact ajq (aa7 h L i (by omega)) _
theorem u6 : bt (ByteArray.empty ++ ByteArray.empty) = [] ∧ ga (ByteArray.empty ++ ByteArray.empty) = 0 := by
 have e : (ByteArray.empty ++ ByteArray.empty : ByteArray) = ByteArray.empty := by rw [aad]
 rw [e]
 have h := qu (s := ByteArray.empty) (i := 0) rfl rfl
 rw [bt, ga, h]
 exact ⟨rfl, rfl⟩
theorem amt {K : List Int} (h : wB (fq K) = true) : y9 (pz K) (pz K) := by
 have hr : yb (pz K) = [] := u6.1
 refine ⟨?_, by rw [hr]; rfl, by rw [hr]; exact trivial⟩
 rw [ni]
 show (wB (fq K) && jd ⟨ByteArray.empty, ByteArray.empty, 0⟩) = true
 rw [h, jd]
 simp only [u6.1, u6.2]
 have e2 : ga ByteArray.empty = 0 := by
  have := u6.2
  rwa [aad] at this
 rw [e2]
 rfl
theorem al9 {K : List Int} {c : ah} (hK : wB (fq K) = true) (h : y9 (pz K) c) : l5 K c.Log = .tup [.int .i64 c.Log.Count, .bool true] := by
 obtain ⟨h1, h2, h3⟩ := h
 have hl := (jy h1).2
 rw [l5, hK, hl]
 show V.tup [.int .i64 ((aau (pz K) (yb c) : Nat) : Int), .bool true] = _
 rw [ae3 _ _ h3]
 exact congrArg (fun z => V.tup [.int .i64 z, .bool true]) (qx hl).2.2.2
theorem ajm {K : List Int} {c : ah} (hK : wB (fq K) = true) (h : y9 (pz K) c) {q : Nat} (hq : q ≤ c.Log.Pending.size) :
 ∃ p : Log, ad9 (c.Log.Durable ++ c.Log.Pending.extract 0 q) = [p.v, .int .i64 (ga (c.Log.Durable ++ c.Log.Pending.extract 0 q)), .bool true] ∧ p.Durable.size ≤ 30000 ∧ p.Pending.size ≤ 30000 ∧ l5 K p = .tup [.int .i64 p.Count, .bool true] := by
 obtain ⟨h1, h2, h3⟩ := h
 have hl := (jy h1).2
 obtain ⟨l1, l2, l3, l4⟩ := qx hl
 have hcat : c.Log.Pending.extract 0 q ++ c.Log.Pending.extract q c.Log.Pending.size = c.Log.Pending := by
  apply og
  rw [j3, dr, dr, List.drop_zero]
  have : c.Log.Pending.size = c.Log.Pending.data.toList.length := rfl
  rw [this, List.take_length, List.take_append_drop]
 have hs : (c.Log.Pending.extract 0 q).size ≤ c.Log.Pending.size := by rw [ByteArray.size_extract]; omega
 obtain ⟨⟨r, p1⟩, _⟩ := asr (c.Log.Durable ++ c.Log.Pending.extract 0 q) (c.Log.Pending.extract q c.Log.Pending.size)
 rw [ByteArray.append_assoc, hcat] at p1
 have ht : (c.Log.Durable ++ c.Log.Pending.extract 0 q).size ≤ 30000 := by rw [ByteArray.size_append]; omega
 generalize c.Log.Durable ++ c.Log.Pending.extract 0 q = t at *
 have hb := x5 t
 refine ⟨⟨t.extract 0 (ga t), ByteArray.empty, ((bt t).length : Int)⟩, ?_, by simp only [ByteArray.size_extract]; omega, by simp, ?_⟩
 · rw [ad9, if_pos ht]; rfl
 · rw [l5, hK, ajy ht]
   show V.tup [.int .i64 ((aau (pz K) (bt (t.extract 0 (ga t) ++ ByteArray.empty)) : Nat) : Int), .bool true] = _
   rw [aad, (aee t).1, ae3 _ _ (aj8 _ _ r (by rw [← p1]; exact h3))]
end Go.Proofs
end
section
set_option maxRecDepth 100000
set_option maxHeartbeats 4000000
namespace Go.Proofs
open Go.Lv
attribute [local irreducible] bt ga dd jd fq
def zC : ah := ⟨⟨0, [], [], 0, 0⟩, ⟨ByteArray.empty, ByteArray.empty, 0⟩⟩
theorem axi : aj 0 ag1 [] (.tup [zC.v, .bool false]) [] := aj.ayk (LeV.agg ⟨.inl rfl, LeE.nil, LeE.nil, .inl rfl, .inl rfl, .inl rfl, .inl rfl, .inl rfl, trivial⟩)
theorem ani {c : ah} {L : List ByteArray} (h : c.sz 0) : ∀ i, i ≤ L.length → (ajo c (L.take i)).sz i
 | 0, _ => h
 | i + 1, hi => by
  rw [abk (show i < L.length by omega)]
  exact alh (ani h i (by omega))
theorem aei (L : List Int) (hL : afz ByteS.ok L) : Ctr Tryz.prog 5 [ByteS.sl L] [] (.bool true) [] := by
 have hB : CB L := hL
 refine Ctr.intro Tryz.mixed Tryz.func5 rfl Tryz.okF5 ?_
 refine ev2 @Tryz.ntmps5 @Tryz.results5 ?_
 refine rn0 ?_
 (first | refine ak.at (anp L) ⟨leA, trivial⟩ ?_ | refine ai.at (anp L) ⟨leA, trivial⟩ ?_)
 refine rn0 ?_
 refine aw.split (fun h1 => ?_) (fun h1 => ?_) <;> refine rn1 @h1 ?_
 · exact aj.au rfl (by rfl)
 refine ai.rel [] (abz hB) (by decide) ⟨leO, trivial⟩ rfl rfl (fun r hout hΦ => ?_)
 obtain ⟨K, l, hK, hl1, hl2, rfl, rfl⟩ := hΦ
 refine ⟨trivial, ?_⟩
 have hi := td K l (by omega) (by omega) (by omega)
 have hs := aga K l (by omega) (by omega) (by omega)
 obtain ⟨x, b, hx⟩ : ∃ (x : Int) (b : Bool), l5 K l = .tup [.int .i64 x, .bool b] := by
  unfold l5
  split <;> exact ⟨_, _, rfl⟩
 rw [hx] at hi hs
 refine rn1 @Log.v.eq_1 ?_
 (first | refine ak.at (hi) ⟨leA, leA, trivial⟩ ?_ | refine ai.at (hi) ⟨leA, leA, trivial⟩ ?_)
 refine rn1 @Log.v.eq_1 ?_
 (first | refine ak.at (hs) ⟨leA, leA, trivial⟩ ?_ | refine ai.at (hs) ⟨leA, leA, trivial⟩ ?_)
 refine rn1 @bne_self_eq_false.{0} ?_
 refine ai.rel [] (abi hB) (by decide) ⟨leO, trivial⟩ rfl rfl (fun r hout hΦ => ?_)
 obtain ⟨c0, text, hc0, ht, rfl, rfl⟩ := hΦ
 refine ⟨trivial, ?_⟩
 refine rn1 @ah.v.eq_1 ?_
 have hsp := ac7 text (by omega)
 cases hw : wB (fq K) with
 | false =>
  have ci := (wy K (by omega) hw).se axi
  have cs := (rf K (by omega) hw).se axi
  have hv := acj zC (by simp [zC]) (by simp [zC])
  generalize zC = z at ci cs hv
  simp only [ah.v] at ci cs hv
  (first | refine ak.at (ci) ⟨leA, trivial⟩ ?_ | refine ai.at (ci) ⟨leA, trivial⟩ ?_)
  refine rn0 ?_
  (first | refine ak.at (cs) ⟨leA, trivial⟩ ?_ | refine ai.at (cs) ⟨leA, trivial⟩ ?_)
  refine rn0 ?_
  (first | refine ak.at (hv) ⟨leA, leA, trivial⟩ ?_ | refine ai.at (hv) ⟨leA, leA, trivial⟩ ?_)
  refine rn1 @bne_self_eq_false.{0} ?_
  exact aj.au rfl (by rfl)
 | true =>
  have ci := afe K (by omega) hw
  have cs := adw K (by omega) hw
  have hz := aiv K (by omega)
  have hd := ar6 hw
  have hcm := amt hw
  have hra := fun {c : ah} => al9 (c := c) hw
  have hrp := fun {c : ah} => ajm (c := c) hw
  have hv := acj (pz K) hz.1 hz.2.1
  generalize pz K = z at ci cs hv hz hd hcm hra hrp
  simp only [ah.v] at ci cs hv
  (first | refine ak.at (ci) ⟨leA, trivial⟩ ?_ | refine ai.at (ci) ⟨leA, trivial⟩ ?_)
  refine rn0 ?_
  (first | refine ak.at (cs) ⟨leA, trivial⟩ ?_ | refine ai.at (cs) ⟨leA, trivial⟩ ?_)
  refine rn0 ?_
  (first | refine ak.at (hv) ⟨leA, leA, trivial⟩ ?_ | refine ai.at (hv) ⟨leA, leA, trivial⟩ ?_)
  refine rn1 @bne_self_eq_false.{0} ?_
  (first | refine ak.at (hsp) ⟨leA, leA, trivial⟩ ?_ | refine ai.at (hsp) ⟨leA, leA, trivial⟩ ?_)
  refine rn0 ?_
  obtain ⟨S, hS⟩ : ∃ S, S = jv 10 text := ⟨_, rfl⟩
  rw [← hS]
  have hSl : S.length ≤ 1001 := by have := aa8 10 text; rw [← hS] at this; omega
  have hSz : ∀ x ∈ S, x.size ≤ 1000 := fun x hx => by have := xy 10 text (by rw [← hS]; exact hx); omega
  refine dn.intro (fun i : Nat => i ≤ S.length) (fun i => ⟨(un 3 (.sl K.length 1 (rows IntS.cs K) :: (un 7 (.ptr 0 0 :: (un 3 (.sl S.length 1 (rows StringS.cs S) :: .undef :: .int .i64 i :: (un 137 []))))))), [some (ajo z (S.take i)).cs], 0⟩) (fun i => S.length - i) 0 (Nat.zero_le _) ?_ (fun i hi2 => ?_)
  · refine bo.pick [2] (by decide) (fun j hj => by omega) ?_ ?_
    · simp [LeG, LeC, LeV, ren, bb, posOf]
    · simp [az, bg, ren, ab, ah.cs, ajo]
  have hzi := ani hz i hi2
  have hci := aa7 hcm S i hi2
  have hls := abk (c := z) (L := S) (i := i)
  generalize ajo z (S.take i) = y at hzi hci hls
  refine ev1 @ah.cs.eq_1 ?_
  refine aw.split (fun h2 => ?_) (fun h2 => ?_)
  · have hi3 : i < S.length := by have := of_decide_eq_true h2; omega
    have hr := bw StringS.csl hi3
    have hx9 := ag8 y S[i] (ah.aij hzi (by omega)) (by have := hSz _ (List.getElem_mem hi3); omega)
    refine rn4 @h2 @hr @StringS.cs.eq_1 @ah.cs.eq_1 ?_
    (first | refine ak.at (hx9) ⟨leA, leA, trivial⟩ ?_ | refine ai.at (hx9) ⟨leA, leA, trivial⟩ ?_)
    refine rn1 @ah.v.eq_1 ?_
    have hw9 : IntKind.i64.wrap ((i : Int) + 1) = (i : Int) + 1 := wrap_i64 (by omega) (by omega)
    refine ⟨i + 1, hi3, ?_, by omega⟩
    refine bo.cut (1) (by simp) (by simp) ?_ ?_
    · simp [LeC, LeV, ren, bh, hw9]
    · simp [cb, ck, ren, ah.cs, hls hi3]
  · have hlg := (jy hci.1).2
    have hsum := (qx hlg).1
    have hR1 := td K y.Log (by omega) (by omega) (by omega)
    rw [hra hci] at hR1
    obtain ⟨q, hq⟩ : ∃ q : Nat, q = y.Log.Pending.size - y.Log.Pending.size % 7 := ⟨_, rfl⟩
    have hq1 : q ≤ y.Log.Pending.size := by omega
    have hcr := aip y.Log (q : Int) false (by omega) (by omega)
    have hck : yu y.Log (q : Int) false = [.str (y.Log.Durable ++ y.Log.Pending.extract 0 q), .bool true] := by
     have : xt y.Log (q : Int) = true := by
      rw [xt, hlg, ep]
      simp
      omega
     rw [yu, if_pos this, ajz]
     simp
    rw [hck] at hcr
    obtain ⟨p, g1, g2, g3, g4⟩ := hrp hci hq1
    obtain ⟨bs, hbs⟩ : ∃ bs, bs = y.Log.Durable ++ y.Log.Pending.extract 0 q := ⟨_, rfl⟩
    rw [← hbs] at hcr g1
    have hbz : bs.size ≤ 30000 := by rw [hbs, ByteArray.size_append, ByteArray.size_extract]; omega
    have hrv := aer bs (by omega)
    rw [g1] at hrv
    have hR2 := td K p (by omega) (by omega) (by omega)
    rw [g4] at hR2
    have htm : ((y.Log.Pending.size : Nat) : Int).tmod 7 = ((y.Log.Pending.size % 7 : Nat) : Int) := rfl
    have hwq : IntKind.i64.wrap ((y.Log.Pending.size : Int) - ((y.Log.Pending.size : Nat) : Int).tmod 7) = (q : Int) := by
     rw [htm, wrap_i64 (by omega) (by omega)]
     omega
    refine rn2 @h2 @ah.cs.eq_1 ?_
    (first | refine ak.at (hR1) ⟨leA, leA, trivial⟩ ?_ | refine ai.at (hR1) ⟨leA, leA, trivial⟩ ?_)
    refine rn2 @Log.v.eq_1 @hwq ?_
    (first | refine ak.at (hcr) ⟨leA, leA, leA, trivial⟩ ?_ | refine ai.at (hcr) ⟨leA, leA, leA, trivial⟩ ?_)
    refine rn0 ?_
    (first | refine ak.at (hrv) ⟨leA, trivial⟩ ?_ | refine ai.at (hrv) ⟨leA, trivial⟩ ?_)
    refine rn1 @Log.v.eq_1 ?_
    (first | refine ak.at (hR2) ⟨leA, leA, trivial⟩ ?_ | refine ai.at (hR2) ⟨leA, leA, trivial⟩ ?_)
    refine rn1 @beq_self_eq_true.{0} ?_
    exact aj.au rfl (by rfl)
end Go.Proofs
end
section
open Go.ChangeShapes Go.WideShapes
namespace Go.Lv

def ShC (P : Program) : Nat → TypeId → List V → Prop
 | 0, _, _ => False
 | n + 1, t, xs =>
  match P.underlying t with
  | some .bool => ∃ b, xs = [.bool b]
  | some (.int k) => ∃ z, xs = [.int k z] ∧ (Lit.int k z).wf = true
  | some .string => ∃ s : ByteArray, xs = [.str s] ∧ s.size ≤ maxLen
  | some (.slice e) => ∃ l cs, xs = [.sl l (P.cellsOf e) cs] ∧ l ≤ maxLen ∧ cs.length = l * P.cellsOf e ∧ ∀ i, i < l → ShC P n e ((cs.drop (i * P.cellsOf e)).take (P.cellsOf e))
  | some (.struct fs) => xs.length = P.cellsOf t ∧ ∀ f ∈ fs.toList, ShC P n f.type ((xs.drop f.offset).take (P.cellsOf f.type))
  | _ => False

def tiled (P : Program) : List Field → Nat → Nat → Bool
 | [], off, n => off == n
 | f :: fs, off, n => f.offset == off && tiled P fs (off + P.cellsOf f.type) n

def abr (P : Program) : Nat → TypeId → Bool
 | 0, _ => false
 | n + 1, t =>
  match P.underlying t with
  | some .bool => true
  | some (.int _) => true
  | some .string => true
  | some (.slice e) => decide (0 < P.cellsOf e) && abr P n e
  | some (.struct fs) => tiled P fs.toList 0 (P.cellsOf t) && fs.toList.all fun f => abr P n f.type
  | _ => false

section
variable {P : Program} {w : World} {m : Nat → Nat}

def Rds (w : World) (m : Nat → Nat) (cs : List Value) (xs : List V) : Prop :=
 cs.length = xs.length ∧ ∀ i (hi : i < xs.length), RV w m [] (fun _ => False) false (cs.getD i Go.undef) xs[i]

theorem Rds.append {a b : List Value} {x y : List V} (h : Rds w m a x) (k : Rds w m b y) : Rds w m (a ++ b) (x ++ y) := by
 refine ⟨by simp [h.1, k.1], fun i hi => ?_⟩
 by_cases hlt : i < x.length
 · rw [List.getElem_append_left hlt]
   have := h.2 i hlt
   rw [List.getD_eq_getElem?_getD, List.getElem?_append_left (by rw [h.1]; exact hlt), ← List.getD_eq_getElem?_getD]
   exact this
 · rw [List.getElem_append_right (by omega)]
   have := k.2 (i - x.length) (by simp at hi; omega)
   rw [List.getD_eq_getElem?_getD, List.getElem?_append_right (by rw [h.1]; omega), ← List.getD_eq_getElem?_getD, h.1]
   exact this

theorem Rds.one {v : Value} {x : V} (h : RV w m [] (fun _ => False) false v x) : Rds w m [v] [x] :=
 ⟨rfl, fun i hi => by have : i = 0 := by simp at hi; omega
                      subst this; exact h⟩

theorem Rds.nil : Rds w m [] [] := ⟨rfl, fun i hi => by simp at hi⟩

theorem ahh {n : Nat} {cs : List Value} : ∀ (fs : List Field) (off : Nat), tiled P fs off cs.length = true → off ≤ cs.length →
 (∀ f ∈ fs, ∃ xs, Rds w m ((cs.drop f.offset).take (P.cellsOf f.type)) xs ∧ ShC P n f.type xs) →
 ∃ ys, Rds w m (cs.drop off) ys ∧ ∀ f ∈ fs, off ≤ f.offset ∧ ShC P n f.type ((ys.drop (f.offset - off)).take (P.cellsOf f.type))
 | [], off, ht, _, _ => by
  simp [tiled] at ht
  subst ht
  refine ⟨[], ?_, fun f hf => by simp at hf⟩
  rw [List.drop_of_length_le (Nat.le_refl _)]
  exact Rds.nil
 | f :: fs, off, ht, hle, h => by
  simp only [tiled, Bool.and_eq_true, beq_iff_eq] at ht
  obtain ⟨rfl, ht⟩ := ht
  have hlen : ∀ (fs : List Field) (o : Nat), tiled P fs o cs.length = true → o ≤ cs.length := by
   intro fs
   induction fs with
   | nil => intro o ht; simp [tiled] at ht; omega
   | cons g fs ih =>
    intro o ht
    simp only [tiled, Bool.and_eq_true, beq_iff_eq] at ht
    have := ih _ ht.2; omega
  have hk := hlen fs _ ht
  obtain ⟨x, hx1, hx2⟩ := h f (by simp)
  obtain ⟨ys, hy1, hy2⟩ := ahh fs _ ht hk (fun g hg => h g (by simp [hg]))
  have hxl : x.length = P.cellsOf f.type := by rw [← hx1.1]; simp; omega
  refine ⟨x ++ ys, ?_, fun g hg => ?_⟩
  · have : cs.drop f.offset = (cs.drop f.offset).take (P.cellsOf f.type) ++ cs.drop (f.offset + P.cellsOf f.type) := by
     rw [← List.drop_drop, List.take_append_drop]
    rw [this]
    exact hx1.append hy1
  · rcases List.mem_cons.1 hg with rfl | hg
    · refine ⟨Nat.le_refl _, ?_⟩
      rw [Nat.sub_self, List.drop_zero, List.take_append_of_le_length (by omega), List.take_of_length_le (by omega)]
      exact hx2
    · obtain ⟨h1, h2⟩ := hy2 g hg
      refine ⟨by omega, ?_⟩
      have : (x ++ ys).drop (g.offset - f.offset) = ys.drop (g.offset - (f.offset + P.cellsOf f.type)) := by
       rw [List.drop_append, List.drop_of_length_le (by omega), List.nil_append]
       congr 1
       omega
      rw [this]
      exact h2

theorem ak8 {n e : Nat} {b off len : Nat} (h : ∀ i, i < len → ∃ cs xs, cs.length = P.cellsOf e ∧ (∀ j, j < P.cellsOf e → w.cell? ⟨b, off + (i * P.cellsOf e + j), none⟩ = cs[j]?) ∧ Rds w m cs xs ∧ ShC P n e xs) :
 ∀ k, k ≤ len → ∃ xs : List V, xs.length = k * P.cellsOf e ∧ (∀ j (hj : j < xs.length), ∃ v, w.cell? ⟨b, off + j, none⟩ = some v ∧ RV w m [] (fun _ => False) false v xs[j]) ∧
  ∀ i, i < k → ShC P n e ((xs.drop (i * P.cellsOf e)).take (P.cellsOf e))
 | 0, _ => ⟨[], by simp, fun j hj => by simp at hj, fun i hi => by omega⟩
 | k + 1, hk => by
  obtain ⟨xs, h1, h2, h3⟩ := ak8 h k (by omega)
  obtain ⟨cs, ys, g1, g2, g3, g4⟩ := h k (by omega)
  have hyl : ys.length = P.cellsOf e := by rw [← g3.1, g1]
  refine ⟨xs ++ ys, by simp [h1, hyl, Nat.add_mul], fun j hj => ?_, fun i hi => ?_⟩
  · by_cases hlt : j < xs.length
    · rw [List.getElem_append_left hlt]
      exact h2 j hlt
    · rw [List.getElem_append_right (by omega)]
      have hj' : j - xs.length < ys.length := by simp at hj; omega
      have hr := g3.2 _ hj'
      have hc := g2 (j - xs.length) (by omega)
      have e1 : off + (k * P.cellsOf e + (j - xs.length)) = off + j := by omega
      rw [e1] at hc
      have hcl : j - xs.length < cs.length := by omega
      rw [List.getElem?_eq_getElem hcl] at hc
      refine ⟨_, hc, ?_⟩
      simpa [List.getD_eq_getElem?_getD, hcl] using hr
  · by_cases e2 : i = k
    · subst e2
      rw [← h1, List.drop_left, List.take_of_length_le (by omega)]
      exact g4
    · have hm : i * P.cellsOf e + P.cellsOf e ≤ xs.length := adn (n := k) (by omega) h1
      rw [List.drop_append_of_le_length (by omega), List.take_append_of_le_length (by simp; omega)]
      exact h3 i (by omega)

theorem aib {H : Type} {enc : TypeId × Value → H} {spare : Nat → Bool} {held : Bool} : ∀ (n : Nat) (fuel : Nat) (t : TypeId) (cs : List Value) (x : DataW H × List MemPlace),
 DataW.trod enc P w 0 spare held fuel t cs = some x → abr P n t = true → ∃ xs, Rds w m cs xs ∧ ShC P n t xs
 | 0, fuel, t, cs, x, _, hp => by simp [abr] at hp
 | n + 1, fuel, t, cs, x, hx, hp => by
  unfold abr at hp
  split at hp
  · rename_i hu
    obtain ⟨b, rfl, _⟩ := DataW.trod_bool hu hx
    exact ⟨[.bool b], Rds.one (.bool b), by unfold ShC; rw [hu]; exact ⟨b, rfl⟩⟩
  · rename_i k hu
    obtain ⟨z, rfl, _, hw⟩ := DataW.trod_int hu hx
    exact ⟨[.int k z], Rds.one (.int k z), by unfold ShC; rw [hu]; exact ⟨z, rfl, hw⟩⟩
  · rename_i hu
    obtain ⟨s, rfl, _, hs⟩ := DataW.trod_string hu hx
    exact ⟨[.str s], Rds.one (.str s), by unfold ShC; rw [hu]; exact ⟨s, rfl, hs⟩⟩
  · rename_i e hu
    simp only [Bool.and_eq_true, decide_eq_true_eq] at hp
    obtain ⟨hpos, hp⟩ := hp
    rcases Deep.open_slice hu hx with ⟨rfl, _⟩ | ⟨a, len, cap, mm, f, D, Pl, rfl, _, hle, hcap, hmm, _, hel⟩
    · refine ⟨[.sl 0 (P.cellsOf e) []], Rds.one (.slz _ _ _), ?_⟩
      unfold ShC; rw [hu]
      exact ⟨0, [], rfl, Nat.zero_le _, by simp, fun i hi => by omega⟩
    · by_cases h0 : len = 0
      · subst h0
        refine ⟨[.sl 0 (P.cellsOf e) []], Rds.one (.slz _ _ _), ?_⟩
        unfold ShC; rw [hu]
        exact ⟨0, [], rfl, Nat.zero_le _, by simp, fun i hi => by omega⟩
      · have hml : len ≤ mm := by rw [hmm]; split <;> omega
        obtain ⟨b, off, spot⟩ := a
        have hspot : spot = none := by
         obtain ⟨cs', hc, _⟩ := hel 0 (by omega)
         obtain ⟨_, hcl, hat⟩ := World.cells?_some hc
         have h1 := hat 0 hpos
         rw [List.getElem?_eq_getElem (by omega)] at h1
         simpa [Addr.add] using World.cell?_spot h1
        subst hspot
        have hall : ∀ i, i < len → ∃ cs xs, cs.length = P.cellsOf e ∧ (∀ j, j < P.cellsOf e → w.cell? ⟨b, off + (i * P.cellsOf e + j), none⟩ = cs[j]?) ∧ Rds w m cs xs ∧ ShC P n e xs := by
         intro i hi
         obtain ⟨cs', hc, ht⟩ := hel i (by omega)
         obtain ⟨_, hcl, hat⟩ := World.cells?_some hc
         obtain ⟨xs, h1, h2⟩ := aib n _ e cs' _ ht hp
         refine ⟨cs', xs, hcl, fun j hj => ?_, h1, h2⟩
         have := hat j hj
         rw [Addr.add_lit, Addr.add_lit] at this
         rw [← this, Nat.add_assoc]
        obtain ⟨xs, h1, h2, h3⟩ := ak8 hall len (Nat.le_refl _)
        refine ⟨[.sl len (P.cellsOf e) xs], Rds.one (.sl b off len cap (P.cellsOf e) xs (fun j => (w.cell? ⟨b, off + j, none⟩).getD Go.undef) h1 (fun _ h => h) hle (fun j hj => ?_) (fun j hj => ?_)), ?_⟩
        · obtain ⟨v, hv, _⟩ := h2 j hj
          simp [hv]
        · obtain ⟨v, hv, hr⟩ := h2 j hj
          simpa [hv] using hr
        · unfold ShC; rw [hu]
          exact ⟨len, xs, rfl, by omega, h1, h3⟩
  · rename_i fs hu
    simp only [Bool.and_eq_true, List.all_eq_true] at hp
    obtain ⟨xs, f, _, _, hl, hxl, hf⟩ := DataW.trod_struct hu hx
    have hfs : ∀ g ∈ fs.toList, ∃ ys, Rds w m ((cs.drop g.offset).take (P.cellsOf g.type)) ys ∧ ShC P n g.type ys := by
     intro g hg
     obtain ⟨i, hi, rfl⟩ := List.getElem_of_mem hg
     have hi' : i < fs.size := by simpa using hi
     have h1 := hf i fs[i] (Array.getElem?_eq_getElem hi')
     rw [List.getElem?_eq_getElem (by omega)] at h1
     exact aib n _ _ _ _ (by simpa using h1) (hp.2 _ hg)
    obtain ⟨ys, h1, h2⟩ := ahh fs.toList 0 (by rw [hl]; exact hp.1) (Nat.zero_le _) hfs
    rw [List.drop_zero] at h1
    refine ⟨ys, h1, ?_⟩
    unfold ShC; rw [hu]
    exact ⟨by rw [← h1.1, hl], fun g hg => by simpa using (h2 g hg).2⟩
  · cases hp

end
section
variable {P : Program} {W : World}

theorem Rds.get {m : Nat → Nat} {a : List Value} {x : List V} (h : Rds W m a x) : a.length = x.length := h.1

theorem aun {H : Type} {enc : TypeId × Value → H} {spare : Nat → Bool} {held : Bool} {n : Nat} {t : TypeId} {v : Value} {d : DataW H} {p : List MemPlace} (m : Nat → Nat)
 (hv : v.cells = #[v]) (h : DataW.Trod enc P W 0 spare held t v d p) (hp : abr P n t = true) : ∃ x, RV W m [] (fun _ => False) true v x ∧ ShC P n t [x] := by
 obtain ⟨fuel, hf⟩ := h
 rw [hv] at hf
 obtain ⟨xs, h1, h2⟩ := aib (m := m) n fuel t _ _ hf hp
 match xs, h1 with
 | [x], h1 => exact ⟨x, by have := h1.2 0 (by simp); exact this.se, h2⟩
 | [], h1 => simp [Rds] at h1
 | _ :: _ :: _, h1 => simp [Rds] at h1

theorem law_walk {f : FuncId} {xs : List V} {vs : Array Value} (m : Nat → Nat) (hc : Ctr P f xs [] (.bool true) []) (hgl : GL W (fun _ => False)) (hsz : vs.size = xs.length)
 (hr : ∀ i (hi : i < xs.length), RV W m [] (fun _ => False) true (vs.getD i Go.undef) xs[i]) :
 Calls P f vs W fun e w' => e = .returned (.bool true) ∧ RowKit.Below W.heap.size W w' := by
 refine (hc.2 W vs m (fun _ => False) ⟨fun i j ci cj h => by simp at h, fun id cs h => by simp at h, fun id cs h => by simp at h⟩ (fun b h => h.elim) hgl hsz hr).mono ?_
 rintro e w' ⟨v, m', rfl, hE, _, hv, _⟩
 refine ⟨by cases hv; rfl, hE.os, hE.tape, hE.output, hE.size, fun k hk => hE.block k hk (fun ⟨id, cs, h, _⟩ => by simp at h)⟩

end
end Go.Lv
end
section
namespace Go.Lv

theorem a0p {P : Program} {t : TypeId} {n : Nat} {xs : List V} (hs : P.underlying t = some (.int .u8)) (h : ShC P (n + 1) t xs) : ∃ z, xs = [.int .u8 z] ∧ 0 ≤ z ∧ z ≤ 255 := by
 simp only [ShC, hs] at h
 obtain ⟨z, h1, h2⟩ := h
 refine ⟨z, h1, ?_⟩
 simp [Lit.wf, IntKind.min, IntKind.max, IntKind.signed, IntKind.bits] at h2
 exact h2

theorem ate {P : Program} {t e : TypeId} {n : Nat} {xs : List V} (hs : P.underlying t = some (.slice e)) {α : Type} {cs : α → List V} {w : Nat} (hw : P.cellsOf e = w) {ok : α → Prop}
 (he : ∀ ys, ShC P n e ys → ∃ a, ys = cs a ∧ ok a) (h : ShC P (n + 1) t xs) : ∃ L : List α, xs = [.sl L.length w (rows cs L)] ∧ afz ok L := by
 simp only [ShC, hs, hw] at h
 obtain ⟨l, ys, rfl, hl, hlen, hel⟩ := h
 suffices ∀ (l : Nat) (ys : List V), ys.length = l * w → (∀ i, i < l → ShC P n e ((ys.drop (i * w)).take w)) → ∃ L : List α, L.length = l ∧ rows cs L = ys ∧ ∀ x ∈ L, ok x by
  obtain ⟨L, h1, h2, h3⟩ := this l ys hlen hel
  exact ⟨L, by rw [h1, h2], by rw [h1]; exact hl, h3⟩
 intro l
 induction l with
 | zero => intro ys h1 _; exact ⟨[], rfl, by simp at h1; simp [rows, h1], fun x hx => by simp at hx⟩
 | succ l ih =>
  intro ys h1 h2
  obtain ⟨a, ha, hoa⟩ := he _ (h2 0 (by omega))
  rw [Nat.zero_mul, List.drop_zero] at ha
  obtain ⟨L, h3, h4, h5⟩ := ih (ys.drop w) (by rw [List.length_drop, h1, Nat.succ_mul]; omega) (fun i hi => by
   have := h2 (i + 1) (by omega)
   rw [List.drop_drop]
   rwa [Nat.succ_mul, Nat.add_comm] at this)
  refine ⟨a :: L, by simp [h3], ?_, ?_⟩
  · rw [e9, h4, ← ha, List.take_append_drop]
  · intro x hx
    rcases List.mem_cons.1 hx with rfl | hx
    · exact hoa
    · exact h5 x hx

end Go.Lv
end
