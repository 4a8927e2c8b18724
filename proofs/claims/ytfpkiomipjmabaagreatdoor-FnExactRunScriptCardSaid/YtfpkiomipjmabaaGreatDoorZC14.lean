/-
  A part of the proof: texts put together by a program of the prover. Conditions: none.
-/
import Derived.Test.YtfpkiomipjmabaaGreatDoorZC9
import Derived.Test.YtfpkiomipjmabaaGreatDoorZC13
set_option linter.unusedSimpArgs false
set_option linter.unusedVariables false
section
set_option maxRecDepth 100000
namespace Go.Proofs
open Go.Lv
structure ab where
 Now : Int
 Posts : List az
 Shocks : List an
 Next : Int
 Archived : Int
def ab.cs (r : ab) : List V := [.int .i64 r.Now, .sl r.Posts.length 3 (Go.Lv.rows az.cs r.Posts), .sl r.Shocks.length 5 (Go.Lv.rows an.cs r.Shocks), .int .i64 r.Next, .int .i64 r.Archived]
def ab.v (r : ab) : V := .agg [.int .i64 r.Now, .sl r.Posts.length 3 (Go.Lv.rows az.cs r.Posts), .sl r.Shocks.length 5 (Go.Lv.rows an.cs r.Shocks), .int .i64 r.Next, .int .i64 r.Archived]
def ab.o (r : ab) (i0 i1 : Nat) : V := .agg [.int .i64 r.Now, .osl i0 0 r.Posts.length 3, .osl i1 0 r.Shocks.length 5, .int .i64 r.Next, .int .i64 r.Archived]
theorem ab.csl (a : ab) : a.cs.length = 5 := rfl
def ab.ok (r : ab) : Prop := iq r.Now ∧ agn az.ok r.Posts ∧ agn an.ok r.Shocks ∧ iq r.Next ∧ iq r.Archived
theorem ab.le {h : Hp} {r : ab} {i0 i1 : Nat} (h0 : h[i0]? = some (some (rows az.cs r.Posts))) (h1 : h[i1]? = some (some (rows an.cs r.Shocks))) : LeV (ren (eh h 3) 3 (r.o i0 i1)) r.v := by
 refine .inl ?_
 simp only [ab.o, ab.v, ren, List.map_cons, List.map_nil, eh, h0, h1, ae, List.drop_zero, e9]
theorem ak2 (r : ab) (hl0 : r.Posts.length ≤ 1048576) (hl1 : r.Shocks.length ≤ 1048576) : Ctr Tryz.prog 107 [r.v] [] (r.o 0 1) [some (rows az.cs r.Posts), some (rows an.cs r.Shocks)] := by
 refine Ctr.intro Tryz.mixed Tryz.func107 rfl Tryz.av2 ?_
 simp -implicitDefEqProofs -dsimp only [go_sem, Tryz.ntmps107, Tryz.results107]
 simp -implicitDefEqProofs -dsimp only [go_sem, ab.v]
 (first | refine ak.at (ac6 r.Posts hl0) ⟨.inl rfl, trivial⟩ ?_ | refine aj.at (ac6 r.Posts hl0) ⟨.inl rfl, trivial⟩ ?_)
 simp -implicitDefEqProofs -dsimp only [go_sem]
 (first | refine ak.at (aa6 r.Shocks hl1) ⟨.inl rfl, trivial⟩ ?_ | refine aj.at (aa6 r.Shocks hl1) ⟨.inl rfl, trivial⟩ ?_)
 simp -implicitDefEqProofs -dsimp only [go_sem]
 refine al.pick [3, 4] (by decide) (fun j hj => by omega) (.inl ?_) ?_
 · rfl
 · simp only [bc, List.map_cons, List.map_nil, bh, List.getElem?_cons_zero, List.getElem?_cons_succ, ae]
theorem ak5 (r : ab) (hr : r.ok) (n : Int) (hn : 0 ≤ n) (hn2 : n ≤ 1048576) : ∃ z : Int, (z < 0 ∨ 0 ≤ z ∧ z = n - (r.Posts.length : Int) - (r.Shocks.length : Int) ∧ r.Posts.length ≤ 1048576 ∧ r.Shocks.length ≤ 1048576) ∧ Ctr Tryz.prog 106 [r.v, .int .i64 n] [] (.int .i64 z) [] := by
 obtain ⟨o0, o1, o2, o3, o4⟩ := hr
 by_cases c0 : n < (r.Posts.length : Int)
 · refine ⟨-1, .inl (by omega), ?_⟩
   refine Ctr.intro Tryz.mixed Tryz.func106 rfl Tryz.akr ?_
   simp -implicitDefEqProofs -dsimp only [go_sem, Tryz.ntmps106, Tryz.results106]
   simp -implicitDefEqProofs -dsimp only [go_sem, ab.v]
   (first | refine ak.at (mq r.Posts (n) o1.1 (by omega) (by omega)) ⟨.inl rfl, .inl rfl, trivial⟩ ?_ | refine aj.at (mq r.Posts (n) o1.1 (by omega) (by omega)) ⟨.inl rfl, .inl rfl, trivial⟩ ?_)
   rw [if_pos c0]
   simp -implicitDefEqProofs -dsimp only [go_sem]
   exact al.ax rfl (by rfl)
 by_cases c1 : n - (r.Posts.length : Int) < (r.Shocks.length : Int)
 · refine ⟨-1, .inl (by omega), ?_⟩
   refine Ctr.intro Tryz.mixed Tryz.func106 rfl Tryz.akr ?_
   simp -implicitDefEqProofs -dsimp only [go_sem, Tryz.ntmps106, Tryz.results106]
   simp -implicitDefEqProofs -dsimp only [go_sem, ab.v]
   (first | refine ak.at (mq r.Posts (n) o1.1 (by omega) (by omega)) ⟨.inl rfl, .inl rfl, trivial⟩ ?_ | refine aj.at (mq r.Posts (n) o1.1 (by omega) (by omega)) ⟨.inl rfl, .inl rfl, trivial⟩ ?_)
   rw [if_neg c0]
   simp -implicitDefEqProofs -dsimp only [go_sem]
   refine bd.split (fun hh => absurd hh (by simp; omega)) (fun hh => ?_)
   simp -implicitDefEqProofs -dsimp only [go_sem, hh]
   (first | refine ak.at (qe r.Shocks (n - (r.Posts.length : Int)) o2.1 (by omega) (by omega)) ⟨.inl rfl, .inl rfl, trivial⟩ ?_ | refine aj.at (qe r.Shocks (n - (r.Posts.length : Int)) o2.1 (by omega) (by omega)) ⟨.inl rfl, .inl rfl, trivial⟩ ?_)
   rw [if_pos c1]
   simp -implicitDefEqProofs -dsimp only [go_sem]
   exact al.ax rfl (by rfl)
 · refine ⟨n - (r.Posts.length : Int) - (r.Shocks.length : Int), .inr ⟨by omega, rfl, by omega, by omega⟩, ?_⟩
   refine Ctr.intro Tryz.mixed Tryz.func106 rfl Tryz.akr ?_
   simp -implicitDefEqProofs -dsimp only [go_sem, Tryz.ntmps106, Tryz.results106]
   simp -implicitDefEqProofs -dsimp only [go_sem, ab.v]
   (first | refine ak.at (mq r.Posts (n) o1.1 (by omega) (by omega)) ⟨.inl rfl, .inl rfl, trivial⟩ ?_ | refine aj.at (mq r.Posts (n) o1.1 (by omega) (by omega)) ⟨.inl rfl, .inl rfl, trivial⟩ ?_)
   rw [if_neg c0]
   simp -implicitDefEqProofs -dsimp only [go_sem]
   refine bd.split (fun hh => absurd hh (by simp; omega)) (fun hh => ?_)
   simp -implicitDefEqProofs -dsimp only [go_sem, hh]
   (first | refine ak.at (qe r.Shocks (n - (r.Posts.length : Int)) o2.1 (by omega) (by omega)) ⟨.inl rfl, .inl rfl, trivial⟩ ?_ | refine aj.at (qe r.Shocks (n - (r.Posts.length : Int)) o2.1 (by omega) (by omega)) ⟨.inl rfl, .inl rfl, trivial⟩ ?_)
   rw [if_neg c1]
   simp -implicitDefEqProofs -dsimp only [go_sem]
   refine bd.split (fun hh => absurd hh (by simp; omega)) (fun hh => ?_)
   simp -implicitDefEqProofs -dsimp only [go_sem, hh]
   exact al.ax rfl (by rfl)
theorem ali (r : ab) (hl0 : r.Posts.length ≤ 281474976710656) (hl1 : r.Shocks.length ≤ 281474976710656) : Ctr Tryz.prog 108 [r.v, r.v] [] (.bool true) [] := by
 refine Ctr.intro Tryz.mixed Tryz.func108 rfl Tryz.ay6 ?_
 simp -implicitDefEqProofs -dsimp only [go_sem, Tryz.ntmps108, Tryz.results108]
 simp -implicitDefEqProofs -dsimp only [go_sem, ab.v]
 (have ct := alb r.Posts hl0; (first | refine ak.at ct ⟨leA, leA, trivial⟩ ?_ | refine aj.at ct ⟨leA, leA, trivial⟩ ?_); clear ct)
 simp -implicitDefEqProofs -dsimp only [go_sem]
 (have ct := air r.Shocks hl1; (first | refine ak.at ct ⟨leA, leA, trivial⟩ ?_ | refine aj.at ct ⟨leA, leA, trivial⟩ ?_); clear ct)
 simp -implicitDefEqProofs -dsimp only [go_sem]
 exact al.ax rfl (by rfl)
theorem y7 (r : ab) (kk : Int) (hl0 : r.Posts.length ≤ 16777216) (hl1 : r.Shocks.length ≤ 16777216) (hk : 0 ≤ kk) (hk2 : kk ≤ 16777216) : Ctr Tryz.prog 110 [.agg [.int .i64 r.Now, .osl 0 0 r.Posts.length 3, .osl 1 0 r.Shocks.length 5, .int .i64 r.Next, .int .i64 r.Archived], .int .i64 kk] [some (rows az.cs r.Posts), some (rows an.cs r.Shocks)] (.int .i64 (kk + 3 * (r.Posts.length : Int) + 5 * (r.Shocks.length : Int))) [some (rows az.cs (az.marks (kk) r.Posts.length)), some (rows an.cs (an.marks (kk + 3 * (r.Posts.length : Int)) r.Shocks.length))] := by
 refine Ctr.intro Tryz.mixed Tryz.func110 rfl Tryz.axi ?_
 simp -implicitDefEqProofs -dsimp only [go_sem, Tryz.ntmps110, Tryz.results110]
 refine aj.qb [0] false ( agu r.Posts (kk) (by omega) (by omega) (by omega)) (by decide) ⟨leO, leO, trivial⟩ rr ( jh (by simp)) (.inl rfl) ?_
 simp -implicitDefEqProofs -dsimp only [go_sem]
 refine aj.qb [1] false ( aey r.Shocks (kk + 3 * (r.Posts.length : Int)) (by omega) (by omega) (by omega)) (by decide) ⟨leO, leO, trivial⟩ rr ( jh (by simp)) (.inl rfl) ?_
 simp -implicitDefEqProofs -dsimp only [go_sem]
 refine al.pick [0, 1] (by decide) (by decide) (.inl rfl) ?_
 simp only [bc, List.map_cons, List.map_nil, bh, List.getElem?_cons_zero, List.getElem?_cons_succ, ae]
theorem ahh (r : ab) (n0 n1 : Nat) (kk : Int) (hn0 : n0 ≤ 16777216) (hn1 : n1 ≤ 16777216) (hk : 0 ≤ kk) (hk2 : kk ≤ 16777216) : Ctr Tryz.prog 111 [.agg [.int .i64 r.Now, .sl n0 3 (rows az.cs (az.marks (kk) n0)), .sl n1 5 (rows an.cs (an.marks (kk + 3 * (n0 : Int)) n1)), .int .i64 r.Next, .int .i64 r.Archived], .int .i64 kk] [] (.int .i64 (kk + 3 * (n0 : Int) + 5 * (n1 : Int))) [] := by
 refine Ctr.intro Tryz.mixed Tryz.func111 rfl Tryz.azq ?_
 simp -implicitDefEqProofs -dsimp only [go_sem, Tryz.ntmps111, Tryz.results111]
 have c0 := ahr n0 (kk) (by omega) (by omega) (by omega)
 simp only [az.sl, az.dr] at c0
 (first | refine ak.at (c0) ⟨leA, leA, trivial⟩ ?_ | refine aj.at (c0) ⟨leA, leA, trivial⟩ ?_)
 simp -implicitDefEqProofs -dsimp only [go_sem]
 refine bd.split (fun hh => absurd hh (by simp; omega)) (fun hh => ?_)
 simp -implicitDefEqProofs -dsimp only [go_sem, hh]
 have c1 := ae1 n1 (kk + 3 * (n0 : Int)) (by omega) (by omega) (by omega)
 simp only [an.sl, an.dr] at c1
 (first | refine ak.at (c1) ⟨leA, leA, trivial⟩ ?_ | refine aj.at (c1) ⟨leA, leA, trivial⟩ ?_)
 simp -implicitDefEqProofs -dsimp only [go_sem]
 refine bd.split (fun hh => absurd hh (by simp; omega)) (fun hh => ?_)
 simp -implicitDefEqProofs -dsimp only [go_sem, hh]
 exact al.ax rfl (by rfl)
end Go.Proofs
end
section
set_option maxRecDepth 100000
namespace Go.Proofs
open Go.Lv
def IntS.cs (x : Int) : List V := [.int .i64 x]
instance : nf IntS.cs 1 := ⟨fun _ => rfl, fun _ d => by cases d <;> rfl, fun _ => rfl, fun _ => rfl⟩
theorem IntS.csl (a : Int) : (IntS.cs a).length = 1 := rfl
theorem IntS.csp (a : Int) : (IntS.cs a).all (cc 2) = true := rfl
abbrev IntS.ok (x : Int) : Prop := iq x
abbrev IntS.sl (L : List Int) : V := .sl L.length 1 (Go.Lv.rows IntS.cs L)
abbrev IntS.zs : List V := [.int .i64 0]
def IntS.marks (k : Int) (n : Nat) : List Int := (List.range n).map fun i : Nat => k + (i : Int)
@[simp] theorem IntS.dr (k : Int) (n : Nat) : (IntS.marks k n).length = n := by simp [IntS.marks]
theorem IntS.ik (k : Int) (n : Nat) : IntS.marks k (n + 1) = IntS.marks k n ++ [k + (n : Int)] := by simp [IntS.marks, List.range_succ]
theorem IntS.jf (k : Int) (n : Nat) {i : Nat} (hi : i < (IntS.marks k n).length) : (IntS.marks k n)[i] = k + (i : Int) := by simp [IntS.marks]
theorem ant (L : List Int) (hl : L.length ≤ 1048576) : Ctr Tryz.prog 27 [IntS.sl L] [] (.osl 0 0 L.length 1) [some (rows IntS.cs L)] := by
 refine Ctr.intro Tryz.mixed Tryz.func27 rfl Tryz.a39 ?_
 simp -implicitDefEqProofs -dsimp only [go_sem, Tryz.ntmps27, Tryz.results27]
 refine ⟨by omega, by omega, by omega, ?_⟩
 refine cw.intro (fun i : Nat => i ≤ L.length) (fun i => ⟨[IntS.sl L, .undef, .undef, .osl 0 0 L.length 1, .int .i64 i, .undef, .undef, .undef, .undef, .undef, .undef, .undef, .undef, .undef, .undef, .undef, .undef, .undef, .undef, .undef, .undef, .undef], [some (filled IntS.cs 1 IntS.zs L i)], 0⟩) (fun i => L.length - i) 0 (Nat.zero_le _) ?_ (fun i hi => ?_)
 · refine br.cut (1) (by simp) (by simp) ?_ ?_
   · simp [LeC, LeV, ren, bm]
   · rw [ur]
     simp only [cb, List.take, List.map]
     rw [gz (y6 rfl (by decide) _)]
     try simp
 simp -implicitDefEqProofs -dsimp only [go_sem]
 refine bd.split (fun h1 => ?_) (fun h1 => ?_)
 · simp -implicitDefEqProofs -dsimp only [go_sem, h1]
   have hi' : i < L.length := by simpa using h1
   have hr := bt IntS.csl hi'
   have hfl := xc (zs := IntS.zs) IntS.csl hi
   (repeat1' (first | simp -implicitDefEqProofs -dsimp only [go_sem, hr, IntS.cs, hfl] | simp -dsimp (disch := omega) only [wrap_i64]))
   repeat (with_reducible refine ah ?_)
   refine ⟨i + 1, hi', ?_, by omega⟩
   refine br.cut (1) (by simp) (by simp) ?_ ?_
   · try rw [wrap_i64 (by omega) (by omega)]
     simp [LeC, LeV, ren, bm]
   · have := ve (zs := IntS.zs) IntS.csl rfl hi'
     simp only [IntS.cs, Nat.mul_one] at this ⊢
     rw [this]
     simp only [cb, List.take, List.map]
     rw [gz (ss (by decide) rfl (fun a => by exact IntS.csp a))]
 · simp -implicitDefEqProofs -dsimp only [go_sem, h1]
   have hi' : i = L.length := by simp at h1; omega
   subst hi'
   rw [xt IntS.csl (Nat.le_refl _)]
   exact al.refl _ _ _
theorem ang (L : List Int) (hl : L.length ≤ 281474976710656) : Ctr Tryz.prog 30 [IntS.sl L, IntS.sl L] [] (.bool true) [] := by
 refine Ctr.intro Tryz.mixed Tryz.func30 rfl Tryz.a32 ?_
 simp -implicitDefEqProofs -dsimp only [go_sem, Tryz.ntmps30, Tryz.results30]
 refine cw.intro (fun i : Nat => i ≤ L.length) (fun i => ⟨[IntS.sl L, IntS.sl L, .undef, .undef, .undef, .int .i64 i, .undef, .undef, .undef, .undef, .undef, .undef, .undef, .undef, .undef, .undef, .undef, .undef, .undef, .undef, .undef, .undef, .undef, .undef, .undef, .undef], [], 0⟩) (fun i => L.length - i) 0 (Nat.zero_le _) ?_ (fun i hi => ?_)
 · refine br.cut (0) (by simp) (by simp) ?_ ?_
   · simp [LeC, LeV, ren, bm]
   · rfl
 simp -implicitDefEqProofs -dsimp only [go_sem]
 refine bd.split (fun h1 => ?_) (fun h1 => ?_)
 · simp -implicitDefEqProofs -dsimp only [go_sem, h1]
   have hi' : i < L.length := by simpa using h1
   have hr := bt IntS.csl hi'
   (repeat1' (first | simp -implicitDefEqProofs -dsimp only [go_sem, hr, IntS.cs, bne_self_eq_false, beq_self_eq_true] | simp -dsimp (disch := omega) only [wrap_i64]))
   repeat (with_reducible refine ah ?_)
   refine ⟨i + 1, hi', ?_, by omega⟩
   refine br.cut (0) (by simp) (by simp) ?_ ?_
   · simp [LeC, LeV, ren, bm]
   · rfl
 · simp -implicitDefEqProofs -dsimp only [go_sem, h1]
   exact al.refl _ _ _
abbrev IntS.v (x : Int) : V := .int .i64 x
end Go.Proofs
end
section
set_option maxRecDepth 100000
set_option maxHeartbeats 2000000
namespace Go.Proofs
open Go.Lv
def apr : Option (aw × Nat) → V
 | some r => .tup [r.1.v, .int .i64 r.2, .bool true]
 | none => .tup [.agg [.str ⟨#[]⟩, .str ⟨#[]⟩], .int .i64 0, .bool false]
theorem aog (k : Int) (s : ByteArray) (hs : s.size ≤ 16777216) : Ctr Tryz.prog 181 [.int .i64 k, .str s] [] (apr (gx k s)) [] := by
 have z1 := rv 10 s
 have z2 := rv 35 (bef 10 s)
 have z3 := ajh 32 (bef 35 (bef 10 s))
 have z4 := rv 64 (aft 32 (bef 35 (bef 10 s)))
 have z5 := ajh 64 (aft 32 (bef 35 (bef 10 s)))
 refine Ctr.intro Tryz.mixed Tryz.func181 rfl Tryz.ayd ?_
 simp -implicitDefEqProofs -dsimp only [go_sem, Tryz.ntmps181, Tryz.results181]
 repeat (with_reducible refine And.intro ?_ ?_; focus (first | omega | with_reducible rfl | (show bp _ = true; kernel_rfl) | (simp only [ay, bb, List.length_append, List.length_cons, List.length_nil, List.all_append, List.all_cons, List.all_nil, bq, Nat.mul_one, Nat.one_mul, Bool.and_self]; first | done | omega) | (simp only [ByteArray.size_append, bo, List.size_toArray, List.length_cons, List.length_nil]; omega)))
 (have ct := ahz s 10 (by omega); (first | refine ak.at ct ⟨leA, leA, trivial⟩ ?_ | refine aj.at ct ⟨leA, leA, trivial⟩ ?_); clear ct)
 simp -implicitDefEqProofs -dsimp only [go_sem]
 have no : gx k s = none → ∀ h, al 0 (.tup [.agg [.str ByteArray.empty, .str ByteArray.empty], .int .i64 0, .bool false]) h (apr (gx k s)) [] := fun e h => al.ax (by rw [e]; rfl) (by rfl)
 cases hf : fnd 10 s with
 | false =>
   have hn : gx k s = none := by rw [gx, hf]; rfl
   simp -implicitDefEqProofs -dsimp only [go_sem, hf, Bool.not_false]
   repeat (with_reducible refine And.intro ?_ ?_; focus (first | omega | with_reducible rfl | (show bp _ = true; kernel_rfl) | (simp only [ay, bb, List.length_append, List.length_cons, List.length_nil, List.all_append, List.all_cons, List.all_nil, bq, Nat.mul_one, Nat.one_mul, Bool.and_self]; first | done | omega) | (simp only [ByteArray.size_append, bo, List.size_toArray, List.length_cons, List.length_nil]; omega)))
   exact no hn _
 | true =>
   have hd : gx k s = (aah k (bef 10 s)).map fun e => (e, (bef 10 s).size + 1) := by rw [gx, if_pos hf]
   have hsz := acg hf
   simp -implicitDefEqProofs -dsimp only [go_sem, hf, Bool.not_true]
   refine bd.split (fun g1 => ?_) (fun g1 => ?_) <;> (repeat ((repeat1' (first | simp -implicitDefEqProofs -dsimp only [go_sem, g1] | simp -dsimp (disch := omega) only [wrap_i64])); repeat (with_reducible refine And.intro ?_ ?_; focus (first | omega | with_reducible rfl | (show bp _ = true; kernel_rfl) | (simp only [ay, bb, List.length_append, List.length_cons, List.length_nil, List.all_append, List.all_cons, List.all_nil, bq, Nat.mul_one, Nat.one_mul, Bool.and_self]; first | done | omega) | (simp only [ByteArray.size_append, bo, List.size_toArray, List.length_cons, List.length_nil]; omega)))))
   · refine no ?_ _
     rw [hd, zx]
     · rfl
     · rintro e ⟨hk, he, hl⟩
       have := gb hk he
       have := il (dh k e)
       rw [hl] at this
       simp at g1
       omega
   (have ct := ahz (bef 10 s) 35 (by omega); (first | refine ak.at ct ⟨leA, leA, trivial⟩ ?_ | refine aj.at ct ⟨leA, leA, trivial⟩ ?_); clear ct)
   simp -implicitDefEqProofs -dsimp only [go_sem]
   (have ct := ahz (bef 35 (bef 10 s)) 32 (by omega); (first | refine ak.at ct ⟨leA, leA, trivial⟩ ?_ | refine aj.at ct ⟨leA, leA, trivial⟩ ?_); clear ct)
   simp -implicitDefEqProofs -dsimp only [go_sem]
   (have ct := ahz (aft 32 (bef 35 (bef 10 s))) 64 (by omega); (first | refine ak.at ct ⟨leA, leA, trivial⟩ ?_ | refine aj.at ct ⟨leA, leA, trivial⟩ ?_); clear ct)
   (repeat ((repeat1' (first | simp -implicitDefEqProofs -dsimp only [go_sem] | simp -dsimp (disch := omega) only [wrap_i64])); repeat (with_reducible refine And.intro ?_ ?_; focus (first | omega | with_reducible rfl | (show bp _ = true; kernel_rfl) | (simp only [ay, bb, List.length_append, List.length_cons, List.length_nil, List.all_append, List.all_cons, List.all_nil, bq, Nat.mul_one, Nat.one_mul, Bool.and_self]; first | done | omega) | (simp only [ByteArray.size_append, bo, List.size_toArray, List.length_cons, List.length_nil]; omega)))))
   have hE := sf k (j9 (bef 10 s)) (by show (bef 64 _).size ≤ _; omega) (by show (aft 64 _).size ≤ _; omega)
   have pc : (j9 (bef 10 s)).Command = bef 64 (aft 32 (bef 35 (bef 10 s))) := rfl
   have pr : (j9 (bef 10 s)).Reply = aft 64 (aft 32 (bef 35 (bef 10 s))) := rfl
   by_cases hc : eb k 0 59 = true ∧ iw (j9 (bef 10 s)) = true
   · rw [ala, if_pos hc] at hE
     have t1 := gb (fh.1 hc.1) hc.2
     have t2 := il (dh k (j9 (bef 10 s)))
     have t3 : (fu k (j9 (bef 10 s))).size = (np (dh k (j9 (bef 10 s)))).size + 1 := by rw [fu, ByteArray.size_append]; rfl
     (first | refine ak.at (hE) ⟨leA, leA, trivial⟩ ?_ | refine aj.at (hE) ⟨leA, leA, trivial⟩ ?_)
     (repeat ((repeat1' (first | simp -implicitDefEqProofs -dsimp only [go_sem, gg] | simp -dsimp (disch := omega) only [wrap_i64])); repeat (with_reducible refine And.intro ?_ ?_; focus (first | omega | with_reducible rfl | (show bp _ = true; kernel_rfl) | (simp only [ay, bb, List.length_append, List.length_cons, List.length_nil, List.all_append, List.all_cons, List.all_nil, bq, Nat.mul_one, Nat.one_mul, Bool.and_self]; first | done | omega) | (simp only [ByteArray.size_append, bo, List.size_toArray, List.length_cons, List.length_nil]; omega)))))
     by_cases hq : fu k (j9 (bef 10 s)) = bef 10 s ++ ⟨#[10]⟩
     · have hdq : decide (fu k (j9 (bef 10 s)) = bef 10 s ++ (⟨#[10]⟩ : ByteArray)) = true := decide_eq_true hq
       have hs' : aah k (bef 10 s) = some (j9 (bef 10 s)) := me.2 ⟨fh.1 hc.1, hc.2, append_right_inj hq⟩
       (repeat ((repeat1' (first | simp -implicitDefEqProofs -dsimp only [go_sem, hdq, Bool.not_true] | simp -dsimp (disch := omega) only [wrap_i64])); repeat (with_reducible refine And.intro ?_ ?_; focus (first | omega | with_reducible rfl | (show bp _ = true; kernel_rfl) | (simp only [ay, bb, List.length_append, List.length_cons, List.length_nil, List.all_append, List.all_cons, List.all_nil, bq, Nat.mul_one, Nat.one_mul, Bool.and_self]; first | done | omega) | (simp only [ByteArray.size_append, bo, List.size_toArray, List.length_cons, List.length_nil]; omega)))))
       refine al.ax ?_ (by rfl)
       rw [hd, hs']
       simp only [Option.map_some, apr, aw.v, pc, pr]
       rfl
     · have hdq : decide (fu k (j9 (bef 10 s)) = bef 10 s ++ (⟨#[10]⟩ : ByteArray)) = false := decide_eq_false hq
       have hn : gx k s = none := by
         rw [hd, zx]
         · rfl
         · rintro e ⟨hk, he, hl⟩
           have := aab hk he
           rw [hl] at this
           rw [this] at hq
           exact hq (by rw [fu, hl])
       (repeat ((repeat1' (first | simp -implicitDefEqProofs -dsimp only [go_sem, hdq, Bool.not_false] | simp -dsimp (disch := omega) only [wrap_i64])); repeat (with_reducible refine And.intro ?_ ?_; focus (first | omega | with_reducible rfl | (show bp _ = true; kernel_rfl) | (simp only [ay, bb, List.length_append, List.length_cons, List.length_nil, List.all_append, List.all_cons, List.all_nil, bq, Nat.mul_one, Nat.one_mul, Bool.and_self]; first | done | omega) | (simp only [ByteArray.size_append, bo, List.size_toArray, List.length_cons, List.length_nil]; omega)))))
       exact no hn _
   · rw [ala, if_neg hc] at hE
     have hn : gx k s = none := by
       rw [hd, zx]
       · rfl
       · rintro e ⟨hk, he, hl⟩
         have := aab hk he
         rw [hl] at this
         rw [this] at hc
         exact hc ⟨fh.2 hk, he⟩
     (first | refine ak.at (hE) ⟨leA, leA, trivial⟩ ?_ | refine aj.at (hE) ⟨leA, leA, trivial⟩ ?_)
     (repeat ((repeat1' (first | simp -implicitDefEqProofs -dsimp only [go_sem, Bool.not_false] | simp -dsimp (disch := omega) only [wrap_i64])); repeat (with_reducible refine And.intro ?_ ?_; focus (first | omega | with_reducible rfl | (show bp _ = true; kernel_rfl) | (simp only [ay, bb, List.length_append, List.length_cons, List.length_nil, List.all_append, List.all_cons, List.all_nil, bq, Nat.mul_one, Nat.one_mul, Bool.and_self]; first | done | omega) | (simp only [ByteArray.size_append, bo, List.size_toArray, List.length_cons, List.length_nil]; omega)))))
     exact no hn _
def aq9 (s : ByteArray) : V := .tup [.osl 0 0 (cy s).length 2, .osl 1 0 (cy s).length 1]
def ao1 (s : ByteArray) : Hp := [some (rows aw.cs (cy s)), some (rows IntS.cs (ny s (cy s).length))]
theorem asc (s : ByteArray) (hs : s.size ≤ 16777216) : Ctr Tryz.prog 117 [.str s] [] (aq9 s) (ao1 s) := by
 refine Ctr.intro Tryz.mixed Tryz.func117 rfl Tryz.azl ?_
 simp -implicitDefEqProofs -dsimp only [go_sem, Tryz.ntmps117, Tryz.results117]
 refine cw.intro (fun i : Nat => (rdN s i).1.length = i) (fun i => ⟨[.str s, .undef, .undef, .undef, .osl 0 0 i 2, .osl 1 0 i 1, .int .i64 (rdN s i).2, .undef, .undef, .undef, .undef, .undef, .undef, .undef, .undef, .undef, .undef, .undef, .undef, .undef, .undef, .undef, .undef, .undef, .undef, .undef, .undef, .undef, .undef, .undef, .undef, .undef, .undef, .undef, .undef, .undef, .undef], [some (rows aw.cs (rdN s i).1), some (rows IntS.cs (ny s i))], 0⟩) (fun i => 61 - i) 0 rfl ?_ (fun i hi => ?_)
 · refine br.cut (2) (by simp) (by simp) ?_ ?_
   · simp [LeC, LeV, ren, bm, rdN]
   · simp [cb, db, rdN, rows, ny]
 have hb := xg s i
 have h60 := xy s i
 have hez : (s.extract (rdN s i).2 s.size).size ≤ 16777216 := by rw [ByteArray.size_extract]; omega
 have hen := xl s i
 rw [hi] at h60
 simp -implicitDefEqProofs -dsimp only [go_sem]
 repeat (with_reducible refine And.intro ?_ ?_; focus (first | omega | with_reducible rfl | (show bp _ = true; kernel_rfl) | (simp only [ay, bb, List.length_append, List.length_cons, List.length_nil, List.all_append, List.all_cons, List.all_nil, bq, Nat.mul_one, Nat.one_mul, Bool.and_self]; first | done | omega) | (simp only [ByteArray.size_append, bo, List.size_toArray, List.length_cons, List.length_nil]; omega)))
 (have ct := aog (i : Int) (s.extract (rdN s i).2 s.size) hez; (first | refine ak.at ct ⟨leA, leA, trivial⟩ ?_ | refine aj.at ct ⟨leA, leA, trivial⟩ ?_); clear ct)
 cases hd : gx (i : Int) (s.extract (rdN s i).2 s.size) with
 | none =>
   have e := y5 hi hd
   (repeat ((repeat1' (first | simp -implicitDefEqProofs -dsimp only [go_sem, apr, Bool.not_false] | simp -dsimp (disch := omega) only [wrap_i64])); repeat (with_reducible refine And.intro ?_ ?_; focus (first | omega | with_reducible rfl | (show bp _ = true; kernel_rfl) | (simp only [ay, bb, List.length_append, List.length_cons, List.length_nil, List.all_append, List.all_cons, List.all_nil, bq, Nat.mul_one, Nat.one_mul, Bool.and_self]; first | done | omega) | (simp only [ByteArray.size_append, bo, List.size_toArray, List.length_cons, List.length_nil]; omega)))))
   have e1 : cy s = (rdN s i).1 := by rw [cy, e]
   rw [aq9, ao1, e1, hi]
   refine al.pick [0, 1] (by decide) (fun j hj => by omega) (.inl ?_) ?_
   · first | rfl | (simp [ren, bg, posOf]; done)
   · simp only [bc, List.map_cons, List.map_nil, bh, List.getElem?_cons_zero, List.getElem?_cons_succ, ae]
 | some r =>
   have hz := z8 hd
   rw [ByteArray.size_extract] at hz
   have hk := alo hd
   have hS : rdN s (i + 1) = ((rdN s i).1 ++ [r.1], (rdN s i).2 + r.2) := js (by rw [hi]; exact hd)
   (repeat ((repeat1' (first | simp -implicitDefEqProofs -dsimp only [go_sem, apr, Bool.not_true, aw.v] | simp -dsimp (disch := omega) only [wrap_i64])); repeat (with_reducible refine And.intro ?_ ?_; focus (first | omega | with_reducible rfl | (show bp _ = true; kernel_rfl) | (simp only [ay, bb, List.length_append, List.length_cons, List.length_nil, List.all_append, List.all_cons, List.all_nil, bq, Nat.mul_one, Nat.one_mul, Bool.and_self]; first | done | omega) | (simp only [ByteArray.size_append, bo, List.size_toArray, List.length_cons, List.length_nil]; omega)))))
   refine ⟨i + 1, by rw [hS]; simp [hi], ?_, by omega⟩
   have e2 := ajx s i
   rw [hS] at e2
   refine br.cut (2) (by simp) (by simp) ?_ ?_
   · rw [hS]; simp [LeC, LeV, ren, bm]
   · rw [e2, hS, ← dk, ← dk]
     simp [cb, db, ren, bm, ae, cx, jk, aw.cs, IntS.cs]
theorem aka (k : Int) (s : ByteArray) (hk : 0 ≤ k ∧ k ≤ 59) (hs : s.size ≤ 16777216) : Ctr Tryz.prog 194 [.str s, .int .i64 k] [] (.tup [(kv k s).1.v, .bool (kv k s).2]) [] := by
 have n1 := j6 (n := k) (by omega) (by omega)
 have z2 := rv 35 s
 obtain ⟨l, hl, _⟩ := se 35 s
 have hsp := th s 35 hs
 rw [hl] at hsp
 have c35 : (((35 : UInt8).toNat : Nat) : Int) = 35 := rfl
 have c64 : (((64 : UInt8).toNat : Nat) : Int) = 64 := rfl
 rw [c35] at hsp
 refine Ctr.intro Tryz.mixed Tryz.func194 rfl Tryz.axj ?_
 simp -implicitDefEqProofs -dsimp only [go_sem, Tryz.ntmps194, Tryz.results194]
 repeat (with_reducible refine And.intro ?_ ?_; focus (first | omega | with_reducible rfl | (show bp _ = true; kernel_rfl) | (simp only [ay, bb, List.length_append, List.length_cons, List.length_nil, List.all_append, List.all_cons, List.all_nil, bq, Nat.mul_one, Nat.one_mul, Bool.and_self]; first | done | omega) | (simp only [ByteArray.size_append, bo, List.size_toArray, List.length_cons, List.length_nil]; omega)))
 repeat (first | ((have ct := fi k (by omega) (by omega); (first | refine ak.at ct ⟨leA, trivial⟩ ?_ | refine aj.at ct ⟨leA, trivial⟩ ?_); clear ct); simp -implicitDefEqProofs -dsimp only [go_sem]) | (with_reducible refine And.intro (by first | omega | (show bp _ = true; kernel_rfl) | (simp only [ByteArray.size_append, bo, List.size_toArray, List.length_cons, List.length_nil]; omega)) ?_; try (repeat1' (first | simp -implicitDefEqProofs -dsimp only [go_sem] | simp -dsimp (disch := omega) only [wrap_i64]))))
 (first | refine ak.at (hsp) ⟨leA, leA, trivial⟩ ?_ | refine aj.at (hsp) ⟨leA, leA, trivial⟩ ?_)
 (repeat ((repeat1' (first | simp -implicitDefEqProofs -dsimp only [go_sem, List.length_cons, dq, StringS.cs] | simp -dsimp (disch := omega) only [wrap_i64])); repeat (with_reducible refine And.intro ?_ ?_; focus (first | omega | with_reducible rfl | (show bp _ = true; kernel_rfl) | (simp only [ay, bb, List.length_append, List.length_cons, List.length_nil, List.all_append, List.all_cons, List.all_nil, bq, Nat.mul_one, Nat.one_mul, Bool.and_self]; first | done | omega) | (simp only [ByteArray.size_append, bo, List.size_toArray, List.length_cons, List.length_nil]; omega)))))
 have h32 : ((#[32] : Array UInt8).size) = 1 := rfl
 have hN : (num k ++ (⟨#[32]⟩ : ByteArray)).size = (num k).size + 1 := ByteArray.size_append
 rw [h32]
 refine a8.ch (fun g1 => ?_) (fun g1 => ?_) <;> simp -implicitDefEqProofs -dsimp only [go_sem, g1, h32]
 rotate_left
 · repeat (with_reducible refine And.intro ?_ ?_; focus (first | omega | with_reducible rfl | (show bp _ = true; kernel_rfl) | (simp only [ay, bb, List.length_append, List.length_cons, List.length_nil, List.all_append, List.all_cons, List.all_nil, bq, Nat.mul_one, Nat.one_mul, Bool.and_self]; first | done | omega) | (simp only [ByteArray.size_append, bo, List.size_toArray, List.length_cons, List.length_nil]; omega)))
   refine al.ax ?_ (by rfl)
   rw [kv, if_pos (.inl (by rw [hN]; simp at g1; omega))]
   rfl
 repeat (with_reducible refine And.intro ?_ ?_; focus (first | omega | with_reducible rfl | (show bp _ = true; kernel_rfl) | (simp only [ay, bb, List.length_append, List.length_cons, List.length_nil, List.all_append, List.all_cons, List.all_nil, bq, Nat.mul_one, Nat.one_mul, Bool.and_self]; first | done | omega) | (simp only [ByteArray.size_append, bo, List.size_toArray, List.length_cons, List.length_nil]; omega)))
 simp -implicitDefEqProofs -dsimp only [go_sem, gg]
 have g1' : (num k).size + 1 ≤ (bef 35 s).size := by simp at g1; omega
 refine ⟨by omega, ?_⟩
 refine bd.split (fun g2 => ?_) (fun g2 => ?_) <;> simp -implicitDefEqProofs -dsimp only [go_sem, g2, h32]
 · repeat (with_reducible refine And.intro ?_ ?_; focus (first | omega | with_reducible rfl | (show bp _ = true; kernel_rfl) | (simp only [ay, bb, List.length_append, List.length_cons, List.length_nil, List.all_append, List.all_cons, List.all_nil, bq, Nat.mul_one, Nat.one_mul, Bool.and_self]; first | done | omega) | (simp only [ByteArray.size_append, bo, List.size_toArray, List.length_cons, List.length_nil]; omega)))
   refine al.ax ?_ (by rfl)
   rw [kv, if_pos (.inr (by rw [hN]; simpa using g2))]
   rfl
 have hno : ¬ ((bef 35 s).size < (num k ++ (⟨#[32]⟩ : ByteArray)).size ∨ ¬ (bef 35 s).extract 0 (num k ++ (⟨#[32]⟩ : ByteArray)).size = num k ++ (⟨#[32]⟩ : ByteArray)) := by
   rw [hN]
   rintro (q | q)
   · omega
   · simp at g2; exact q g2
 have hP : kv k s = xn k s ((bef 35 s).extract ((num k).size + 1) (bef 35 s).size) := by rw [kv, if_neg hno, hN]
 have hRs : ((bef 35 s).extract ((num k).size + 1) (bef 35 s).size).size ≤ s.size := by rw [ByteArray.size_extract]; omega
 repeat (with_reducible refine And.intro ?_ ?_; focus (first | omega | with_reducible rfl | (show bp _ = true; kernel_rfl) | (simp only [ay, bb, List.length_append, List.length_cons, List.length_nil, List.all_append, List.all_cons, List.all_nil, bq, Nat.mul_one, Nat.one_mul, Bool.and_self]; first | done | omega) | (simp only [ByteArray.size_append, bo, List.size_toArray, List.length_cons, List.length_nil]; omega)))
 generalize hR : (bef 35 s).extract ((num k).size + 1) (bef 35 s).size = R at hP hRs ⊢
 have hz4 := rv 64 R
 obtain ⟨l2, hl2, _⟩ := se 64 R
 have hsp2 := th R 64 (by omega)
 rw [hl2, c64] at hsp2
 (first | refine ak.at (hsp2) ⟨leA, leA, trivial⟩ ?_ | refine aj.at (hsp2) ⟨leA, leA, trivial⟩ ?_)
 (repeat ((repeat1' (first | simp -implicitDefEqProofs -dsimp only [go_sem, List.length_cons, dq, StringS.cs] | simp -dsimp (disch := omega) only [wrap_i64])); repeat (with_reducible refine And.intro ?_ ?_; focus (first | omega | with_reducible rfl | (show bp _ = true; kernel_rfl) | (simp only [ay, bb, List.length_append, List.length_cons, List.length_nil, List.all_append, List.all_cons, List.all_nil, bq, Nat.mul_one, Nat.one_mul, Bool.and_self]; first | done | omega) | (simp only [ByteArray.size_append, bo, List.size_toArray, List.length_cons, List.length_nil]; omega)))))
 refine bd.split (fun g3 => ?_) (fun g3 => ?_) <;> simp -implicitDefEqProofs -dsimp only [go_sem, g3]
 · repeat (with_reducible refine And.intro ?_ ?_; focus (first | omega | with_reducible rfl | (show bp _ = true; kernel_rfl) | (simp only [ay, bb, List.length_append, List.length_cons, List.length_nil, List.all_append, List.all_cons, List.all_nil, bq, Nat.mul_one, Nat.one_mul, Bool.and_self]; first | done | omega) | (simp only [ByteArray.size_append, bo, List.size_toArray, List.length_cons, List.length_nil]; omega)))
   refine al.ax ?_ (by rfl)
   rw [hP, xn, if_pos (by simp at g3; omega)]
   rfl
 have g3' : (bef 64 R).size + 1 ≤ R.size := by simp at g3; omega
 have hP2 : xn k s R = (⟨bef 64 R, R.extract ((bef 64 R).size + 1) R.size⟩, iw ⟨bef 64 R, R.extract ((bef 64 R).size + 1) R.size⟩ && decide (fu k ⟨bef 64 R, R.extract ((bef 64 R).size + 1) R.size⟩ = s ++ ⟨#[10]⟩)) := by
   rw [xn, if_neg (by omega)]
 have hq : IntKind.i64.wrap (((bef 64 R).size : Int) + 1) = (((bef 64 R).size + 1 : Nat) : Int) := by rw [wrap_i64 (by omega) (by omega)]; omega
 have hEz : (R.extract ((bef 64 R).size + 1) R.size).size ≤ R.size := by rw [ByteArray.size_extract]; omega
 (repeat ((repeat1' (first | simp -implicitDefEqProofs -dsimp only [go_sem, hq] | simp -dsimp (disch := omega) only [wrap_i64])); repeat (with_reducible refine And.intro ?_ ?_; focus (first | omega | with_reducible rfl | (show bp _ = true; kernel_rfl) | (simp only [ay, bb, List.length_append, List.length_cons, List.length_nil, List.all_append, List.all_cons, List.all_nil, bq, Nat.mul_one, Nat.one_mul, Bool.and_self]; first | done | omega) | (simp only [ByteArray.size_append, bo, List.size_toArray, List.length_cons, List.length_nil]; omega)))))
 have hE1 : R.extract (IntKind.i64.wrap (((bef 64 R).size : Int) + 1)).toNat R.size = R.extract ((bef 64 R).size + 1) R.size := by rw [hq]; rfl
 rw [hE1]
 generalize hE : R.extract ((bef 64 R).size + 1) R.size = E at hP2 hEz ⊢
 (first | refine ak.at (pd ⟨bef 64 R, E⟩ (by show (bef 64 R).size ≤ _; omega) (by show E.size ≤ _; omega)) ⟨leA, trivial⟩ ?_ | refine aj.at (pd ⟨bef 64 R, E⟩ (by show (bef 64 R).size ≤ _; omega) (by show E.size ≤ _; omega)) ⟨leA, trivial⟩ ?_)
 cases hb : iw ⟨bef 64 R, E⟩ with
 | false =>
   simp -implicitDefEqProofs -dsimp only [go_sem]
   repeat (with_reducible refine And.intro ?_ ?_; focus (first | omega | with_reducible rfl | (show bp _ = true; kernel_rfl) | (simp only [ay, bb, List.length_append, List.length_cons, List.length_nil, List.all_append, List.all_cons, List.all_nil, bq, Nat.mul_one, Nat.one_mul, Bool.and_self]; first | done | omega) | (simp only [ByteArray.size_append, bo, List.size_toArray, List.length_cons, List.length_nil]; omega)))
   refine al.ax ?_ (by rfl)
   rw [hP, hP2, hb]
   rfl
 | true =>
   have t1 := gb hk hb
   have t2 := il (dh k ⟨bef 64 R, E⟩)
   simp -implicitDefEqProofs -dsimp only [go_sem]
   have hLn := ade k ⟨bef 64 R, E⟩ hk hb
   simp only [aw.v] at hLn
   (first | refine ak.at (hLn) ⟨leA, leA, trivial⟩ ?_ | refine aj.at (hLn) ⟨leA, leA, trivial⟩ ?_)
   (repeat ((repeat1' (first | simp -implicitDefEqProofs -dsimp only [go_sem, gg] | simp -dsimp (disch := omega) only [wrap_i64])); repeat (with_reducible refine And.intro ?_ ?_; focus (first | omega | with_reducible rfl | (show bp _ = true; kernel_rfl) | (simp only [ay, bb, List.length_append, List.length_cons, List.length_nil, List.all_append, List.all_cons, List.all_nil, bq, Nat.mul_one, Nat.one_mul, Bool.and_self]; first | done | omega) | (simp only [ByteArray.size_append, bo, List.size_toArray, List.length_cons, List.length_nil]; omega)))))
   refine al.ax ?_ (by rfl)
   rw [hP, hP2, hb, Bool.true_and]
   rfl
end Go.Proofs
end
section
set_option maxRecDepth 100000
set_option maxHeartbeats 2000000
namespace Go.Proofs
open Go.Lv
def aba (s : ByteArray) : V := .tup [.osl 0 0 (cy s).length 2, .int .i64 (p9 s)]
def aaw (s : ByteArray) : Hp := [some (rows aw.cs (cy s))]
theorem ach {k : Int} {s : ByteArray} (h : s.size = 0) : gx k s = none := by
 cases g : gx k s with
 | none => rfl
 | some r => have := z8 g; omega
theorem w8 (s : ByteArray) (hs : s.size ≤ 16777216) : Ctr Tryz.prog 135 [.str s] [] (aba s) (aaw s) := by
 refine Ctr.intro Tryz.mixed Tryz.func135 rfl Tryz.ay5 ?_
 simp -implicitDefEqProofs -dsimp only [go_sem, Tryz.ntmps135, Tryz.results135]
 refine cw.intro (fun i : Nat => (rdN s i).1.length = i) (fun i => ⟨[.str s, .undef, .undef, .undef, .osl 0 0 i 2, .int .i64 (rdN s i).2, .undef, .undef, .undef, .undef, .undef, .undef, .undef, .undef, .undef, .undef, .undef, .undef, .undef, .undef, .undef, .undef, .undef, .undef, .undef, .undef, .undef, .undef, .undef, .undef, .undef, .undef, .undef, .undef, .undef, .undef, .undef, .undef, .undef, .undef, .undef, .undef, .undef, .undef, .undef, .undef, .undef, .undef, .undef, .undef, .undef, .undef], [some (rows aw.cs (rdN s i).1)], 0⟩) (fun i => 61 - i) 0 rfl ?_ (fun i hi => ?_)
 · refine br.cut (1) (by simp) (by simp) ?_ ?_
   · simp [LeC, LeV, ren, bm, rdN]
   · simp [cb, db, rdN, rows]
 have hb := xg s i
 have h60 := xy s i
 have hez : (s.extract (rdN s i).2 s.size).size ≤ 16777216 := by rw [ByteArray.size_extract]; omega
 rw [hi] at h60
 have stop : gx (i : Int) (s.extract (rdN s i).2 s.size) = none → (cy s = (rdN s i).1 ∧ p9 s = (rdN s i).2) := fun hd => by
   have e := y5 hi hd
   exact ⟨by rw [cy, e], by rw [p9, e]⟩
 simp -implicitDefEqProofs -dsimp only [go_sem]
 refine a8.bu (fun g1 => ?_) (fun g1 => ?_) <;> simp -implicitDefEqProofs -dsimp only [go_sem, g1]
 rotate_left
 · obtain ⟨e1, e2⟩ := stop (ach (by rw [ByteArray.size_extract]; simp at g1; omega))
   rw [aba, aaw, e1, e2, hi]
   refine al.pick [0] (by decide) (fun j hj => by omega) (.inl ?_) ?_
   · first | rfl | (simp [ren, bg, posOf]; done)
   · simp only [bc, List.map_cons, List.map_nil, bh, List.getElem?_cons_zero, List.getElem?_cons_succ, ae]
 refine bd.split (fun g2 => ?_) (fun g2 => ?_) <;> simp -implicitDefEqProofs -dsimp only [go_sem, g2]
 rotate_left
 · have hn : gx (i : Int) (s.extract (rdN s i).2 s.size) = none := by
     cases g : gx (i : Int) (s.extract (rdN s i).2 s.size) with
     | none => rfl
     | some r => have := alo g; simp at g2; omega
   obtain ⟨e1, e2⟩ := stop hn
   rw [aba, aaw, e1, e2, hi]
   refine al.pick [0] (by decide) (fun j hj => by omega) (.inl ?_) ?_
   · first | rfl | (simp [ren, bg, posOf]; done)
   · simp only [bc, List.map_cons, List.map_nil, bh, List.getElem?_cons_zero, List.getElem?_cons_succ, ae]
 have hk : (0 : Int) ≤ (i : Int) ∧ (i : Int) ≤ 59 := by simp at g2; omega
 repeat (with_reducible refine And.intro ?_ ?_; focus (first | omega | with_reducible rfl | (show bp _ = true; kernel_rfl) | (simp only [ay, bb, List.length_append, List.length_cons, List.length_nil, List.all_append, List.all_cons, List.all_nil, bq, Nat.mul_one, Nat.one_mul, Bool.and_self]; first | done | omega) | (simp only [ByteArray.size_append, bo, List.size_toArray, List.length_cons, List.length_nil]; omega)))
 generalize hR : s.extract (rdN s i).2 s.size = R at hez stop ⊢
 obtain ⟨l, hl, hl0⟩ := se 10 R
 have hsp := th R 10 hez
 have c10 : (((10 : UInt8).toNat : Nat) : Int) = 10 := rfl
 rw [hl, c10] at hsp
 (first | refine ak.at (hsp) ⟨leA, leA, trivial⟩ ?_ | refine aj.at (hsp) ⟨leA, leA, trivial⟩ ?_)
 have hz := rv 10 R
 (repeat ((repeat1' (first | simp -implicitDefEqProofs -dsimp only [go_sem, List.length_cons, dq, StringS.cs] | simp -dsimp (disch := omega) only [wrap_i64])); repeat (with_reducible refine And.intro ?_ ?_; focus (first | omega | with_reducible rfl | (show bp _ = true; kernel_rfl) | (simp only [ay, bb, List.length_append, List.length_cons, List.length_nil, List.all_append, List.all_cons, List.all_nil, bq, Nat.mul_one, Nat.one_mul, Bool.and_self]; first | done | omega) | (simp only [ByteArray.size_append, bo, List.size_toArray, List.length_cons, List.length_nil]; omega)))))
 (have ct := aka (i : Int) (bef 10 R) hk (by omega); (first | refine ak.at ct ⟨leA, leA, trivial⟩ ?_ | refine aj.at ct ⟨leA, leA, trivial⟩ ?_); clear ct)
 (repeat ((repeat1' (first | simp -implicitDefEqProofs -dsimp only [go_sem, aw.v] | simp -dsimp (disch := omega) only [wrap_i64])); repeat (with_reducible refine And.intro ?_ ?_; focus (first | omega | with_reducible rfl | (show bp _ = true; kernel_rfl) | (simp only [ay, bb, List.length_append, List.length_cons, List.length_nil, List.all_append, List.all_cons, List.all_nil, bq, Nat.mul_one, Nat.one_mul, Bool.and_self]; first | done | omega) | (simp only [ByteArray.size_append, bo, List.size_toArray, List.length_cons, List.length_nil]; omega)))))
 refine a8.ch (fun g3 => ?_) (fun g3 => ?_) <;> simp -implicitDefEqProofs -dsimp only [go_sem, g3]
 rotate_left
 · have hf : fnd 10 R = false := hl0.1 (by
     cases l with
     | nil => rfl
     | cons a l => simp at g3; omega)
   obtain ⟨e1, e2⟩ := stop (by rw [gx, hf]; rfl)
   rw [aba, aaw, e1, e2, hi]
   refine al.pick [0] (by decide) (fun j hj => by omega) (.inl ?_) ?_
   · first | rfl | (simp [ren, bg, posOf]; done)
   · simp only [bc, List.map_cons, List.map_nil, bh, List.getElem?_cons_zero, List.getElem?_cons_succ, ae]
 have hf : fnd 10 R = true := by
   cases q : fnd 10 R with
   | true => rfl
   | false => rw [hl0.2 q] at g3; simp at g3
 have hd : gx (i : Int) R = (aah (i : Int) (bef 10 R)).map fun e => (e, (bef 10 R).size + 1) := by rw [gx, if_pos hf]
 have hfs := acg hf
 have hRs : R.size + (rdN s i).2 ≤ s.size := by
   rw [← hR, ByteArray.size_extract]; omega
 refine bd.split (fun g4 => ?_) (fun g4 => ?_)
 · simp -implicitDefEqProofs -dsimp only [go_sem, g4]
   have hp : (kv (i : Int) (bef 10 R)).2 = false := by simpa using g4
   obtain ⟨e1, e2⟩ := stop (by
     rw [hd]
     cases q : aah (i : Int) (bef 10 R) with
     | none => rfl
     | some e => rw [ana q] at hp; cases hp)
   rw [aba, aaw, e1, e2, hi]
   refine al.pick [0] (by decide) (fun j hj => by omega) (.inl ?_) ?_
   · first | rfl | (simp [ren, bg, posOf]; done)
   · simp only [bc, List.map_cons, List.map_nil, bh, List.getElem?_cons_zero, List.getElem?_cons_succ, ae]
 · have hp : (kv (i : Int) (bef 10 R)).2 = true := by simpa using g4
   have hs' := ais hk hp
   rw [hs'] at hd
   have hS : rdN s (i + 1) = ((rdN s i).1 ++ [(kv (i : Int) (bef 10 R)).1], (rdN s i).2 + ((bef 10 R).size + 1)) := js (r := ((kv (i : Int) (bef 10 R)).1, (bef 10 R).size + 1)) (by rw [hi, hR, hd]; rfl)
   (repeat ((repeat1' (first | simp -implicitDefEqProofs -dsimp only [go_sem, g4, ay, bb, hi, Nat.mul_one, List.length_cons, dq, StringS.cs] | simp -dsimp (disch := omega) only [wrap_i64])); repeat (with_reducible refine And.intro ?_ ?_; focus (first | omega | with_reducible rfl | (show bp _ = true; kernel_rfl) | (simp only [ay, bb, List.length_append, List.length_cons, List.length_nil, List.all_append, List.all_cons, List.all_nil, bq, Nat.mul_one, Nat.one_mul, Bool.and_self]; first | done | omega) | (simp only [ByteArray.size_append, bo, List.size_toArray, List.length_cons, List.length_nil]; omega)))))
   refine ⟨i + 1, by rw [hS]; simp [hi], ?_, by omega⟩
   refine br.cut (1) (by simp) (by simp) ?_ ?_
   · rw [hS]; (simp [LeC, LeV, ren, bm]; try omega)
   · rw [hS, ← dk]
     simp [cb, db, ren, bm, ae, cx, jk, aw.cs]
end Go.Proofs
end
section
set_option maxRecDepth 100000
namespace Go.Proofs
open Go.Lv
structure Log where
 Durable : ByteArray
 Pending : ByteArray
 Count : Int
def Log.cs (r : Log) : List V := [.str r.Durable, .str r.Pending, .int .i64 r.Count]
def Log.v (r : Log) : V := .agg [.str r.Durable, .str r.Pending, .int .i64 r.Count]
theorem Log.csl (a : Log) : a.cs.length = 3 := rfl
theorem Log.csp (a : Log) : a.cs.all (cc 2) = true := rfl
instance : nf Log.cs 3 := ⟨fun _ => rfl, fun _ d => by cases d <;> rfl, fun _ => rfl, fun _ => rfl⟩
def Log.ok (r : Log) : Prop := agl r.Durable ∧ agl r.Pending ∧ iq r.Count
abbrev Log.rows (L : List Log) : List V := Go.Lv.rows Log.cs L
abbrev Log.sl (L : List Log) : V := .sl L.length 3 (Go.Lv.rows Log.cs L)
abbrev Log.zs : List V := [.str ByteArray.empty, .str ByteArray.empty, .int .i64 0]
theorem acr (r : Log) : Ctr Tryz.prog 28 [r.v] [] r.v [] := by
 refine Ctr.intro Tryz.mixed Tryz.func28 rfl Tryz.a1v ?_
 simp -implicitDefEqProofs -dsimp only [go_sem, Tryz.ntmps28, Tryz.results28]
 simp -implicitDefEqProofs -dsimp only [go_sem, Log.v]
 exact al.ax rfl rfl
theorem aju (r : Log) : Ctr Tryz.prog 109 [r.v, r.v] [] (.bool true) [] := by
 refine Ctr.intro Tryz.mixed Tryz.func109 rfl Tryz.axo ?_
 simp -implicitDefEqProofs -dsimp only [go_sem, Tryz.ntmps109, Tryz.results109]
 simp -implicitDefEqProofs -dsimp only [go_sem, Log.v, bne_self_eq_false, beq_self_eq_true, Bool.not_true]
 exact al.ax rfl rfl
end Go.Proofs
end
section
set_option maxRecDepth 100000
set_option maxHeartbeats 2000000
namespace Go.Proofs
open Go.Lv
theorem amu (s : ByteArray) : ∃ i, i ≤ 60 ∧ (rdN s i).1.length = i ∧ rdN s 60 = rdN s i ∧ gx i (s.extract (rdN s i).2 s.size) = none := by
 have key : ∀ m, (rdN s m).1.length = m ∨ ∃ i, (rdN s i).1.length = i ∧ gx i (s.extract (rdN s i).2 s.size) = none := by
   intro m
   induction m with
   | zero => exact .inl rfl
   | succ m ih =>
     rcases ih with h | h
     · cases g : gx (m : Int) (s.extract (rdN s m).2 s.size) with
       | none => exact .inr ⟨m, h, g⟩
       | some r =>
         refine .inl ?_
         rw [js (r := r) (by rw [h]; exact g)]
         simp [h]
     · exact .inr h
 rcases key 61 with h | ⟨i, h1, h2⟩
 · have := xy s 61; omega
 · have := xy s i
   exact ⟨i, by omega, h1, y5 h1 h2, h2⟩
theorem r5 (s : ByteArray) : (rdN s (cy s).length).1.length = (cy s).length ∧ rdN s 60 = rdN s (cy s).length ∧ gx (cy s).length (s.extract (p9 s) s.size) = none ∧ (cy s).length ≤ 60 := by
 obtain ⟨i, h0, h1, h2, h3⟩ := amu s
 have e : (cy s).length = i := by rw [cy, h2, h1]
 have e2 : p9 s = (rdN s i).2 := by rw [p9, h2]
 rw [e, e2]
 exact ⟨h1, h2, h3, h0⟩
theorem ame (s : ByteArray) : p9 s = (rdN s (cy s).length).2 := by rw [p9, (r5 s).2.1]
theorem atu (s : ByteArray) : p9 s ≤ s.size ∧ p9 s ≤ 25380 := by
 have h1 := xg s 60
 have h2 := xy s 60
 unfold p9; omega
theorem amo {c : UInt8} {x y : ByteArray} (h : fnd c x = true) : fnd c (x ++ y) = true ∧ bef c (x ++ y) = bef c x := by
 obtain ⟨a, b, rfl, ha⟩ := yp h
 have e : (a ++ (⟨#[c]⟩ ++ b)) ++ y = a ++ (⟨#[c]⟩ ++ (b ++ y)) := by simp only [ByteArray.append_assoc]
 rw [e]
 exact ⟨(q8 ha).2.2.2, by rw [(q8 ha).2.1, (q8 ha).2.1]⟩
theorem apx {k : Int} {x y : ByteArray} {r : aw × Nat} (h : gx k x = some r) : gx k (x ++ y) = some r := by
 obtain ⟨h1, h2, h3⟩ := r7 h
 obtain ⟨g1, g2⟩ := amo (y := y) h1
 rw [gx, if_pos g1, g2, h2]
 simp only [Option.map_some]
 rw [← h3]
theorem ash {c : UInt8} {x y : ByteArray} (h : fnd c (x ++ y) = true) (hs : (bef c (x ++ y)).size + 1 ≤ x.size) : fnd c x = true := by
 cases g : fnd c x with
 | true => rfl
 | false =>
   exfalso
   obtain ⟨a, b, e, ha⟩ := yp h
   rw [e, (q8 ha).2.1] at hs
   have hx : x.data.toList ++ y.data.toList = a.data.toList ++ c :: b.data.toList := by
     rw [← lu, e, lu, lu]; rfl
   have hc : x.data.toList[a.size]? = some c := by
     have h1 : (x.data.toList ++ y.data.toList)[a.size]? = some c := by
       rw [hx, List.getElem?_append_right (by rw [e8]; exact Nat.le_refl _), e8]
       simp
     rwa [List.getElem?_append_left (by rw [e8]; omega)] at h1
   have hne : Lib.indexByte x.data.toList c = -1 := by
     have h1 := Lib.indexByte_ge x.data.toList c
     have h2 : ¬ 0 ≤ Lib.indexByte x.data.toList c := by
       intro q
       have : fnd c x = true := decide_eq_true q
       rw [this] at g; cases g
     omega
   exact Lib.indexByte_none hne a.size hc
theorem aow {k : Int} {x y : ByteArray} {r : aw × Nat} (h : gx k (x ++ y) = some r) (hs : r.2 ≤ x.size) : gx k x = some r := by
 obtain ⟨h1, h2, h3⟩ := r7 h
 have g1 := ash h1 (by omega)
 have g2 := (amo (y := y) g1).2
 rw [g2] at h2 h3
 rw [gx, if_pos g1, h2]
 simp only [Option.map_some]
 rw [← h3]
theorem alv {D P : ByteArray} {a : Nat} (h : a ≤ D.size) : (D ++ P).extract a (D ++ P).size = D.extract a D.size ++ P := by
 apply ra
 have hl : (D ++ P).size = (D ++ P).data.toList.length := rfl
 have hl2 : D.size = D.data.toList.length := rfl
 rw [lu, dx, dx, hl, List.take_length, hl2, List.take_length, lu]
 exact List.drop_append_of_le_length (by rw [e8]; exact h)
theorem apg {D P : ByteArray} : ∀ {j : Nat}, (rdN D j).1.length = j → rdN (D ++ P) j = rdN D j
 | 0, _ => rfl
 | j + 1, h => by
   have hj := ab3 h (Nat.le_succ j)
   have ih := apg (P := P) hj
   cases g : gx (j : Int) (D.extract (rdN D j).2 D.size) with
   | none => rw [pk (by rw [hj]; exact g)] at h; omega
   | some r =>
     rw [js (s := D) (r := r) (by rw [hj]; exact g)]
     rw [js (s := D ++ P) (r := r) (by rw [ih, hj, alv (xg D j).1]; exact apx g), ih]
theorem apw {D P : ByteArray} : ∀ {j : Nat}, (rdN (D ++ P) j).1.length = j → (rdN (D ++ P) j).2 ≤ D.size → rdN D j = rdN (D ++ P) j
 | 0, _, _ => rfl
 | j + 1, h, hs => by
   have hj := ab3 h (Nat.le_succ j)
   cases g : gx (j : Int) ((D ++ P).extract (rdN (D ++ P) j).2 (D ++ P).size) with
   | none => rw [pk (by rw [hj]; exact g)] at h; omega
   | some r =>
     have hS := js (s := D ++ P) (n := j) (r := r) (by rw [hj]; exact g)
     rw [hS] at hs ⊢
     simp only at hs
     have ih := apw hj (by omega)
     rw [← ih] at g hs
     rw [alv (xg D j).1] at g
     have g2 := aow g (by rw [ByteArray.size_extract]; omega)
     rw [js (s := D) (r := r) (by
       have e : (rdN D j).1.length = j := by rw [ih]; exact hj
       rw [e]; exact g2), ih]
theorem ajw {D P : ByteArray} : (∃ j, j ≤ (cy (D ++ P)).length ∧ (rdN (D ++ P) j).2 = D.size) ↔ p9 D = D.size := by
 obtain ⟨h1, h2, h3, h4⟩ := r5 (D ++ P)
 constructor
 · rintro ⟨j, hj, e⟩
   have hl := ab3 h1 hj
   have hp := apw hl (by omega)
   have hd : gx (j : Int) (D.extract (rdN D j).2 D.size) = none := ach (by rw [hp, e, ByteArray.size_extract]; omega)
   have := y5 (s := D) (by rw [hp]; exact hl) hd
   rw [p9, this, hp, e]
 · intro e
   obtain ⟨i, k0, k1, k2, k3⟩ := amu D
   have ha := apg (P := P) k1
   have hi : (rdN (D ++ P) i).1.length = i := by rw [ha]; exact k1
   refine ⟨i, ?_, by rw [ha, ← e, p9, k2]⟩
   by_cases c : i ≤ (cy (D ++ P)).length
   · exact c
   · exfalso
     have h5 : gx ((cy (D ++ P)).length : Int) ((D ++ P).extract (rdN (D ++ P) (cy (D ++ P)).length).2 (D ++ P).size) = none := by
       rw [← ame]; exact h3
     have := zr (s := D ++ P) (n := (cy (D ++ P)).length) (by rw [h1]; exact h5) (i - (cy (D ++ P)).length)
     have e2 : (cy (D ++ P)).length + (i - (cy (D ++ P)).length) = i := by omega
     rw [e2] at this
     rw [this, h1] at hi
     omega
def nc (l : Log) : Bool := decide (l.Durable.size + l.Pending.size ≤ 30000) && (decide (p9 (l.Durable ++ l.Pending) = l.Durable.size + l.Pending.size) && (decide (p9 l.Durable = l.Durable.size) && decide (((cy (l.Durable ++ l.Pending)).length : Int) = l.Count)))
theorem wj (l : Log) (hd : l.Durable.size ≤ 4194304) (hp : l.Pending.size ≤ 4194304) : Ctr Tryz.prog 87 [l.v] [] (.bool (nc l)) [] := by
 have hsz : (l.Durable ++ l.Pending).size = l.Durable.size + l.Pending.size := ByteArray.size_append
 have hw : IntKind.i64.wrap ((l.Durable.size : Int) + (l.Pending.size : Int)) = (l.Durable.size : Int) + (l.Pending.size : Int) := wrap_i64 (by omega) (by omega)
 refine Ctr.intro Tryz.mixed Tryz.func87 rfl Tryz.a4a ?_
 simp -implicitDefEqProofs -dsimp only [go_sem, Tryz.ntmps87, Tryz.results87]
 (repeat ((repeat1' (first | simp -implicitDefEqProofs -dsimp only [go_sem, Log.v, hw] | simp -dsimp (disch := omega) only [wrap_i64])); repeat (with_reducible refine And.intro ?_ ?_; focus (first | omega | with_reducible rfl | (show bp _ = true; kernel_rfl) | (simp only [ay, bb, List.length_append, List.length_cons, List.length_nil, List.all_append, List.all_cons, List.all_nil, bq, Nat.mul_one, Nat.one_mul, Bool.and_self]; first | done | omega) | (simp only [ByteArray.size_append, bo, List.size_toArray, List.length_cons, List.length_nil]; omega)))))
 refine bd.split (fun g1 => ?_) (fun g1 => ?_) <;> (repeat ((repeat1' (first | simp -implicitDefEqProofs -dsimp only [go_sem, g1] | simp -dsimp (disch := omega) only [wrap_i64])); repeat (with_reducible refine And.intro ?_ ?_; focus (first | omega | with_reducible rfl | (show bp _ = true; kernel_rfl) | (simp only [ay, bb, List.length_append, List.length_cons, List.length_nil, List.all_append, List.all_cons, List.all_nil, bq, Nat.mul_one, Nat.one_mul, Bool.and_self]; first | done | omega) | (simp only [ByteArray.size_append, bo, List.size_toArray, List.length_cons, List.length_nil]; omega)))))
 · refine al.ax ?_ (by rfl)
   have : ¬ l.Durable.size + l.Pending.size ≤ 30000 := by simp at g1; omega
   simp [nc, this]
 (have ct := w8 (l.Durable ++ l.Pending) (by rw [hsz]; omega); (first | refine ak.at ct ⟨leA, trivial⟩ ?_ | refine aj.at ct ⟨leA, trivial⟩ ?_); clear ct)
 (repeat ((repeat1' (first | simp -implicitDefEqProofs -dsimp only [go_sem, aba, aaw, hw] | simp -dsimp (disch := omega) only [wrap_i64])); repeat (with_reducible refine And.intro ?_ ?_; focus (first | omega | with_reducible rfl | (show bp _ = true; kernel_rfl) | (simp only [ay, bb, List.length_append, List.length_cons, List.length_nil, List.all_append, List.all_cons, List.all_nil, bq, Nat.mul_one, Nat.one_mul, Bool.and_self]; first | done | omega) | (simp only [ByteArray.size_append, bo, List.size_toArray, List.length_cons, List.length_nil]; omega)))))
 (have ct := w8 l.Durable (by omega); (first | refine ak.at ct ⟨leA, trivial⟩ ?_ | refine aj.at ct ⟨leA, trivial⟩ ?_); clear ct)
 (repeat ((repeat1' (first | simp -implicitDefEqProofs -dsimp only [go_sem, aba, aaw, hw] | simp -dsimp (disch := omega) only [wrap_i64])); repeat (with_reducible refine And.intro ?_ ?_; focus (first | omega | with_reducible rfl | (show bp _ = true; kernel_rfl) | (simp only [ay, bb, List.length_append, List.length_cons, List.length_nil, List.all_append, List.all_cons, List.all_nil, bq, Nat.mul_one, Nat.one_mul, Bool.and_self]; first | done | omega) | (simp only [ByteArray.size_append, bo, List.size_toArray, List.length_cons, List.length_nil]; omega)))))
 have hb : decide (l.Durable.size + l.Pending.size ≤ 30000) = true := by simp at g1 ⊢; omega
 have c1 : (((p9 (l.Durable ++ l.Pending) : Nat) : Int) == (l.Durable.size : Int) + (l.Pending.size : Int)) = decide (p9 (l.Durable ++ l.Pending) = l.Durable.size + l.Pending.size) := by rw [Bool.eq_iff_iff]; simp; omega
 have c2 : (((p9 l.Durable : Nat) : Int) == (l.Durable.size : Int)) = decide (p9 l.Durable = l.Durable.size) := by rw [Bool.eq_iff_iff]; simp; omega
 refine a8.bu (fun g2 => ?_) (fun g2 => ?_) <;> simp -implicitDefEqProofs -dsimp only [go_sem, g2, hw]
 rotate_left
 · refine al.ax ?_ (by rfl)
   rw [c1] at g2
   simp only [nc, g2, Bool.false_and, Bool.and_false]
 refine a8.bu (fun g3 => ?_) (fun g3 => ?_) <;> simp -implicitDefEqProofs -dsimp only [go_sem, g3, hw]
 rotate_left
 · refine al.ax ?_ (by rfl)
   rw [c2] at g3
   simp only [nc, g3, Bool.false_and, Bool.and_false]
 refine al.ax ?_ (by rfl)
 rw [c1] at g2
 rw [c2] at g3
 simp only [nc, hb, g2, g3, Bool.true_and]
 congr 1
def dn (s : ByteArray) : List Int := 0 :: ny s (cy s).length
theorem s7 (s : ByteArray) : (dn s).length = (cy s).length + 1 := by simp [dn, xl]
theorem tm {s : ByteArray} {i : Nat} (h : i < (dn s).length) : (dn s)[i] = ((rdN s i).2 : Int) := by
 cases i with
 | zero => rfl
 | succ i => simp [dn, ny]
def axb (l : Log) : Bool := (dn (l.Durable ++ l.Pending)).any fun a => a == (l.Durable.size : Int)
theorem asw (l : Log) : axb l = decide (p9 l.Durable = l.Durable.size) := by
 rw [Bool.eq_iff_iff, decide_eq_true_eq, ← ajw (P := l.Pending), axb, List.any_eq_true]
 constructor
 · rintro ⟨a, ha, e⟩
   obtain ⟨i, hi, rfl⟩ := List.getElem_of_mem ha
   rw [tm hi] at e
   rw [s7] at hi
   exact ⟨i, by omega, by simp at e; omega⟩
 · rintro ⟨j, hj, e⟩
   have hi : j < (dn (l.Durable ++ l.Pending)).length := by rw [s7]; omega
   exact ⟨_, List.getElem_mem hi, by rw [tm hi, e]; simp⟩
def aeh (l : Log) : V := .tup [.osl 0 0 (cy (l.Durable ++ l.Pending)).length 2, .bool (nc l)]
def afg (l : Log) : Hp := [some (rows aw.cs (cy (l.Durable ++ l.Pending)))]
theorem aee (l : Log) (hd : l.Durable.size ≤ 4194304) (hp : l.Pending.size ≤ 4194304) : Ctr Tryz.prog 89 [l.v] [] (aeh l) (afg l) := by
 have hsz : (l.Durable ++ l.Pending).size = l.Durable.size + l.Pending.size := ByteArray.size_append
 refine Ctr.intro Tryz.mixed Tryz.func89 rfl Tryz.a5b ?_
 simp -implicitDefEqProofs -dsimp only [go_sem, Tryz.ntmps89, Tryz.results89]
 (repeat ((repeat1' (first | simp -implicitDefEqProofs -dsimp only [go_sem, Log.v] | simp -dsimp (disch := omega) only [wrap_i64])); repeat (with_reducible refine And.intro ?_ ?_; focus (first | omega | with_reducible rfl | (show bp _ = true; kernel_rfl) | (simp only [ay, bb, List.length_append, List.length_cons, List.length_nil, List.all_append, List.all_cons, List.all_nil, bq, Nat.mul_one, Nat.one_mul, Bool.and_self]; first | done | omega) | (simp only [ByteArray.size_append, bo, List.size_toArray, List.length_cons, List.length_nil]; omega)))))
 (have ct := asc (l.Durable ++ l.Pending) (by rw [hsz]; omega); (first | refine ak.at ct ⟨leA, trivial⟩ ?_ | refine aj.at ct ⟨leA, trivial⟩ ?_); clear ct)
 have h60 := (r5 (l.Durable ++ l.Pending)).2.2.2
 have hen := xl (l.Durable ++ l.Pending) (cy (l.Durable ++ l.Pending)).length
 have htk : List.take (cy (l.Durable ++ l.Pending)).length (rows IntS.cs (ny (l.Durable ++ l.Pending) (cy (l.Durable ++ l.Pending)).length)) = rows IntS.cs (ny (l.Durable ++ l.Pending) (cy (l.Durable ++ l.Pending)).length) :=
   List.take_of_length_le (by rw [ay, hen]; omega)
 (repeat ((repeat1' (first | simp -implicitDefEqProofs -dsimp only [go_sem, aq9, ao1, ay, bb, hen, htk, Nat.mul_one, List.length_cons, List.length_nil] | simp -dsimp (disch := omega) only [wrap_i64])); repeat (with_reducible refine And.intro ?_ ?_; focus (first | omega | with_reducible rfl | (show bp _ = true; kernel_rfl) | (simp only [ay, bb, List.length_append, List.length_cons, List.length_nil, List.all_append, List.all_cons, List.all_nil, bq, Nat.mul_one, Nat.one_mul, Bool.and_self]; first | done | omega) | (simp only [ByteArray.size_append, bo, List.size_toArray, List.length_cons, List.length_nil]; omega)))))
 have hsl := s7 (l.Durable ++ l.Pending)
 have hw : IntKind.i64.wrap ((l.Durable.size : Int) + (l.Pending.size : Int)) = (l.Durable.size : Int) + (l.Pending.size : Int) := wrap_i64 (by omega) (by omega)
 refine cw.intro (fun i : Nat => i ≤ (dn (l.Durable ++ l.Pending)).length) (fun i => ⟨[.undef, .ptr 0 0, .undef, .undef, .str (l.Durable ++ l.Pending), .osl 1 0 (cy (l.Durable ++ l.Pending)).length 2, .undef, .osl 2 0 (dn (l.Durable ++ l.Pending)).length 1, .bool (((dn (l.Durable ++ l.Pending)).take i).any fun a => a == (l.Durable.size : Int)), .undef, .undef, .undef, .undef, .undef, .undef, .undef, .undef, .undef, .undef, .undef, .undef, .undef, .undef, .undef, .osl 2 0 (dn (l.Durable ++ l.Pending)).length 1, .int .i64 (dn (l.Durable ++ l.Pending)).length, .int .i64 i, .undef, .undef, .undef, .undef, .undef, .undef, .undef, .undef, .undef, .undef, .undef, .undef, .undef, .undef, .undef, .undef, .undef, .undef, .undef, .undef, .undef, .undef, .undef, .undef, .undef, .undef, .undef, .undef, .undef, .undef, .undef, .undef], [some l.cs, some (rows aw.cs (cy (l.Durable ++ l.Pending))), some (rows IntS.cs (dn (l.Durable ++ l.Pending)))], 0⟩) (fun i => (dn (l.Durable ++ l.Pending)).length - i) 0 (Nat.zero_le _) ?_ (fun i hi => ?_)
 · refine br.pick [0, 1, 3] (by decide) (fun j hj => by omega) ?_ ?_
   · simp [LeG, LeV, ren, bg, posOf, hsl]
     omega
   · simp [bc, bh, ren, bg, posOf, ae, Log.cs]
     rw [dn, dq]
     simp only [IntS.cs, List.cons_append, List.nil_append]
 simp -implicitDefEqProofs -dsimp only [go_sem, Log.cs]
 refine bd.split (fun h1 => ?_) (fun h1 => ?_)
 · simp -implicitDefEqProofs -dsimp only [go_sem, h1]
   have hi' : i < (dn (l.Durable ++ l.Pending)).length := by simpa using h1
   have hr := bt IntS.csl hi'
   repeat (with_reducible refine And.intro ?_ ?_; focus (first | omega | with_reducible rfl | (show bp _ = true; kernel_rfl) | (simp only [ay, bb, List.length_append, List.length_cons, List.length_nil, List.all_append, List.all_cons, List.all_nil, bq, Nat.mul_one, Nat.one_mul, Bool.and_self]; first | done | omega) | (simp only [ByteArray.size_append, bo, List.size_toArray, List.length_cons, List.length_nil]; omega)))
   have e1 : ((dn (l.Durable ++ l.Pending)).take (i + 1)).any (fun a => a == (l.Durable.size : Int)) = (((dn (l.Durable ++ l.Pending)).take i).any (fun a => a == (l.Durable.size : Int)) || ((dn (l.Durable ++ l.Pending))[i] == (l.Durable.size : Int))) := by
     rw [List.take_succ_eq_append_getElem hi', List.any_append]; simp
   rw [hr]
   refine a8.ch (fun h2 => ?_) (fun h2 => ?_) <;> (repeat ((repeat1' (first | simp -implicitDefEqProofs -dsimp only [go_sem, h2, IntS.cs, Log.cs] | simp -dsimp (disch := omega) only [wrap_i64])); repeat (with_reducible refine And.intro ?_ ?_; focus (first | omega | with_reducible rfl | (show bp _ = true; kernel_rfl) | (simp only [ay, bb, List.length_append, List.length_cons, List.length_nil, List.all_append, List.all_cons, List.all_nil, bq, Nat.mul_one, Nat.one_mul, Bool.and_self]; first | done | omega) | (simp only [ByteArray.size_append, bo, List.size_toArray, List.length_cons, List.length_nil]; omega)))))
   · refine ⟨i + 1, hi', ?_, by omega⟩
     refine br.cut (3) (by simp) (by simp) ?_ ?_
     · rw [e1, h2]; simp [LeC, LeV, ren, bm]
     · simp [cb, db, ren, ae, Log.cs]
   · refine ⟨i + 1, hi', ?_, by omega⟩
     refine br.cut (3) (by simp) (by simp) ?_ ?_
     · rw [e1, h2]; simp [LeC, LeV, ren, bm]
     · simp [cb, db, ren, ae, Log.cs]
 · simp -implicitDefEqProofs -dsimp only [go_sem, h1]
   have hi' : i = (dn (l.Durable ++ l.Pending)).length := by simp at h1; omega
   subst hi'
   rw [List.take_length]
   have hdu : ((dn (l.Durable ++ l.Pending)).any fun a => a == (l.Durable.size : Int)) = axb l := rfl
   rw [hdu]
   repeat (with_reducible refine And.intro ?_ ?_; focus (first | omega | with_reducible rfl | (show bp _ = true; kernel_rfl) | (simp only [ay, bb, List.length_append, List.length_cons, List.length_nil, List.all_append, List.all_cons, List.all_nil, bq, Nat.mul_one, Nat.one_mul, Bool.and_self]; first | done | omega) | (simp only [ByteArray.size_append, bo, List.size_toArray, List.length_cons, List.length_nil]; omega)))
   have hlast : (cy (l.Durable ++ l.Pending)).length < (dn (l.Durable ++ l.Pending)).length := by rw [hsl]; omega
   have hr2 := bt IntS.csl hlast
   rw [tm hlast, ← ame] at hr2
   have hw2 : IntKind.i64.wrap (((dn (l.Durable ++ l.Pending)).length : Int) - 1) = ((cy (l.Durable ++ l.Pending)).length : Int) := by rw [wrap_i64 (by omega) (by omega)]; omega
   have hdb := asw l
   refine a8.bu (fun g1 => ?_) (fun g1 => ?_) <;> simp -implicitDefEqProofs -dsimp only [go_sem, g1]
   · (repeat ((repeat1' (first | simp -implicitDefEqProofs -dsimp only [go_sem, hr2, hw2, hsz, IntS.cs] | simp -dsimp (disch := omega) only [wrap_i64])); repeat (with_reducible refine And.intro ?_ ?_; focus (first | omega | with_reducible rfl | (show bp _ = true; kernel_rfl) | (simp only [ay, bb, List.length_append, List.length_cons, List.length_nil, List.all_append, List.all_cons, List.all_nil, bq, Nat.mul_one, Nat.one_mul, Bool.and_self]; first | done | omega) | (simp only [ByteArray.size_append, bo, List.size_toArray, List.length_cons, List.length_nil]; omega)))))
     rw [hdb] at g1
     have hab := (atu (l.Durable ++ l.Pending)).2
     have c1 : (((p9 (l.Durable ++ l.Pending) : Nat) : Int) == ((l.Durable.size + l.Pending.size : Nat) : Int)) = decide (p9 (l.Durable ++ l.Pending) = l.Durable.size + l.Pending.size) := by rw [Bool.eq_iff_iff]; simp; omega
     refine a8.bu (fun g2 => ?_) (fun g2 => ?_) <;> simp -implicitDefEqProofs -dsimp only [go_sem, g2]
     · rw [c1] at g2
       have hb : decide (l.Durable.size + l.Pending.size ≤ 30000) = true := by simp at g2 ⊢; omega
       have hL : nc l = (l.Count == ((cy (l.Durable ++ l.Pending)).length : Int)) := by
         simp only [nc, hb, g1, g2, Bool.true_and]
         rw [Bool.eq_iff_iff]
         simp
         exact ⟨fun h => h.symm, fun h => h.symm⟩
       repeat (with_reducible refine And.intro ?_ ?_; focus (first | omega | with_reducible rfl | (show bp _ = true; kernel_rfl) | (simp only [ay, bb, List.length_append, List.length_cons, List.length_nil, List.all_append, List.all_cons, List.all_nil, bq, Nat.mul_one, Nat.one_mul, Bool.and_self]; first | done | omega) | (simp only [ByteArray.size_append, bo, List.size_toArray, List.length_cons, List.length_nil]; omega)))
       rw [aeh, afg, hL]
       refine al.pick [1] (by decide) (fun j hj => by omega) (.inl ?_) ?_
       · first | rfl | (simp [ren, bg, posOf]; done)
       · simp only [bc, List.map_cons, List.map_nil, bh, List.getElem?_cons_zero, List.getElem?_cons_succ, ae]
     · rw [c1] at g2
       have hL : nc l = false := by simp only [nc, g2, Bool.false_and, Bool.and_false]
       repeat (with_reducible refine And.intro ?_ ?_; focus (first | omega | with_reducible rfl | (show bp _ = true; kernel_rfl) | (simp only [ay, bb, List.length_append, List.length_cons, List.length_nil, List.all_append, List.all_cons, List.all_nil, bq, Nat.mul_one, Nat.one_mul, Bool.and_self]; first | done | omega) | (simp only [ByteArray.size_append, bo, List.size_toArray, List.length_cons, List.length_nil]; omega)))
       rw [aeh, afg, hL]
       refine al.pick [1] (by decide) (fun j hj => by omega) (.inl ?_) ?_
       · first | rfl | (simp [ren, bg, posOf]; done)
       · simp only [bc, List.map_cons, List.map_nil, bh, List.getElem?_cons_zero, List.getElem?_cons_succ, ae]
   · rw [hdb] at g1
     have hL : nc l = false := by simp only [nc, g1, Bool.false_and, Bool.and_false]
     rw [aeh, afg, hL]
     refine al.pick [1] (by decide) (fun j hj => by omega) (.inl ?_) ?_
     · first | rfl | (simp [ren, bg, posOf]; done)
     · simp only [bc, List.map_cons, List.map_nil, bh, List.getElem?_cons_zero, List.getElem?_cons_succ, ae]
theorem um (l : Log) (hd : l.Durable.size ≤ 4194304) (hp : l.Pending.size ≤ 4194304) : Ctr Tryz.prog 103 [l.v] [] (.bool (nc l)) [] := by
 refine Ctr.intro Tryz.mixed Tryz.func103 rfl Tryz.ayv ?_
 simp -implicitDefEqProofs -dsimp only [go_sem, Tryz.ntmps103, Tryz.results103]
 simp -implicitDefEqProofs -dsimp only [go_sem, Log.v]
 (have ct := aee l hd hp; (first | refine ak.at ct ⟨leA, trivial⟩ ?_ | refine aj.at ct ⟨leA, trivial⟩ ?_); clear ct)
 simp -implicitDefEqProofs -dsimp only [go_sem, aeh]
 exact al.ax rfl (by rfl)
end Go.Proofs
end
section
set_option maxRecDepth 100000
set_option maxHeartbeats 2000000
namespace Go.Proofs
open Go.Lv
theorem aji (r : Log) (hr : r.ok) (n : Int) (hn : 0 ≤ n) (hn2 : n ≤ 1048576) : ∃ z : Int, (z < 0 ∨ 0 ≤ z ∧ z = n - (r.Durable.size : Int) - (r.Pending.size : Int) ∧ r.Durable.size ≤ 1048576 ∧ r.Pending.size ≤ 1048576) ∧ Ctr Tryz.prog 25 [r.v, .int .i64 n] [] (.int .i64 z) [] := by
 obtain ⟨o0, o1, _⟩ := hr
 simp only [agl] at o0 o1
 by_cases c0 : n < (r.Durable.size : Int)
 · refine ⟨-1, .inl (by omega), ?_⟩
   refine Ctr.intro Tryz.mixed Tryz.func25 rfl Tryz.api ?_
   simp -implicitDefEqProofs -dsimp only [go_sem, Tryz.ntmps25, Tryz.results25]
   (repeat1' (first | simp -implicitDefEqProofs -dsimp only [go_sem, Log.v] | simp -dsimp (disch := omega) only [wrap_i64]))
   refine bd.split (fun h1 => ?_) (fun h1 => ?_)
   · simp -implicitDefEqProofs -dsimp only [go_sem, h1]
     exact al.ax rfl (by rfl)
   · exact absurd h1 (by simp; omega)
 · by_cases c1 : n - (r.Durable.size : Int) < (r.Pending.size : Int)
   · refine ⟨-1, .inl (by omega), ?_⟩
     refine Ctr.intro Tryz.mixed Tryz.func25 rfl Tryz.api ?_
     simp -implicitDefEqProofs -dsimp only [go_sem, Tryz.ntmps25, Tryz.results25]
     (repeat1' (first | simp -implicitDefEqProofs -dsimp only [go_sem, Log.v] | simp -dsimp (disch := omega) only [wrap_i64]))
     refine bd.split (fun h1 => absurd h1 (by simp; omega)) (fun h1 => ?_)
     (repeat1' (first | simp -implicitDefEqProofs -dsimp only [go_sem, h1] | simp -dsimp (disch := omega) only [wrap_i64]))
     refine bd.split (fun h2 => ?_) (fun h2 => ?_)
     · simp -implicitDefEqProofs -dsimp only [go_sem, h2]
       exact al.ax rfl (by rfl)
     · exact absurd h2 (by simp; omega)
   · refine ⟨n - (r.Durable.size : Int) - (r.Pending.size : Int), .inr ⟨by omega, rfl, by omega, by omega⟩, ?_⟩
     refine Ctr.intro Tryz.mixed Tryz.func25 rfl Tryz.api ?_
     simp -implicitDefEqProofs -dsimp only [go_sem, Tryz.ntmps25, Tryz.results25]
     (repeat1' (first | simp -implicitDefEqProofs -dsimp only [go_sem, Log.v] | simp -dsimp (disch := omega) only [wrap_i64]))
     refine bd.split (fun h1 => absurd h1 (by simp; omega)) (fun h1 => ?_)
     (repeat1' (first | simp -implicitDefEqProofs -dsimp only [go_sem, h1] | simp -dsimp (disch := omega) only [wrap_i64]))
     refine bd.split (fun h2 => absurd h2 (by simp; omega)) (fun h2 => ?_)
     (repeat1' (first | simp -implicitDefEqProofs -dsimp only [go_sem, h2] | simp -dsimp (disch := omega) only [wrap_i64]))
     exact al.ax rfl (by rfl)
def pf (l : Log) : Option (List aw) := if nc l = true then some (cy (l.Durable ++ l.Pending)) else none
theorem ad8 (l : Log) (hd : l.Durable.size ≤ 4194304) (hp : l.Pending.size ≤ 4194304) : Ctr Tryz.prog 88 [l.v] [] (tn 2 (pf l)) (lz aw.cs (pf l)) := by
 have hsz : (l.Durable ++ l.Pending).size = l.Durable.size + l.Pending.size := ByteArray.size_append
 refine Ctr.intro Tryz.mixed Tryz.func88 rfl Tryz.a2c ?_
 simp -implicitDefEqProofs -dsimp only [go_sem, Tryz.ntmps88, Tryz.results88]
 simp -implicitDefEqProofs -dsimp only [go_sem, Log.v]
 (have ct := wj l hd hp; (first | refine ak.at ct ⟨leA, trivial⟩ ?_ | refine aj.at ct ⟨leA, trivial⟩ ?_); clear ct)
 cases h : nc l with
 | false =>
   (repeat ((repeat1' (first | simp -implicitDefEqProofs -dsimp only [go_sem, Bool.not_false] | simp -dsimp (disch := omega) only [wrap_i64])); repeat (with_reducible refine And.intro ?_ ?_; focus (first | omega | with_reducible rfl | (show bp _ = true; kernel_rfl) | (simp only [ay, bb, List.length_append, List.length_cons, List.length_nil, List.all_append, List.all_cons, List.all_nil, bq, Nat.mul_one, Nat.one_mul, Bool.and_self]; first | done | omega) | (simp only [ByteArray.size_append, bo, List.size_toArray, List.length_cons, List.length_nil]; omega)))))
   have e : pf l = none := by simp [pf, h]
   rw [e]
   simp only [tn, lz]
   refine al.pick [1] (by decide) (fun j hj => by omega) (.inl ?_) ?_
   · first | rfl | (simp [ren, bg, posOf]; done)
   · simp only [bc, List.map_cons, List.map_nil, bh, List.getElem?_cons_zero, List.getElem?_cons_succ, ae]
 | true =>
   (repeat ((repeat1' (first | simp -implicitDefEqProofs -dsimp only [go_sem, Bool.not_true] | simp -dsimp (disch := omega) only [wrap_i64])); repeat (with_reducible refine And.intro ?_ ?_; focus (first | omega | with_reducible rfl | (show bp _ = true; kernel_rfl) | (simp only [ay, bb, List.length_append, List.length_cons, List.length_nil, List.all_append, List.all_cons, List.all_nil, bq, Nat.mul_one, Nat.one_mul, Bool.and_self]; first | done | omega) | (simp only [ByteArray.size_append, bo, List.size_toArray, List.length_cons, List.length_nil]; omega)))))
   (have ct := w8 (l.Durable ++ l.Pending) (by rw [hsz]; omega); (first | refine ak.at ct ⟨leA, trivial⟩ ?_ | refine aj.at ct ⟨leA, trivial⟩ ?_); clear ct)
   (repeat ((repeat1' (first | simp -implicitDefEqProofs -dsimp only [go_sem, aba, aaw] | simp -dsimp (disch := omega) only [wrap_i64])); repeat (with_reducible refine And.intro ?_ ?_; focus (first | omega | with_reducible rfl | (show bp _ = true; kernel_rfl) | (simp only [ay, bb, List.length_append, List.length_cons, List.length_nil, List.all_append, List.all_cons, List.all_nil, bq, Nat.mul_one, Nat.one_mul, Bool.and_self]; first | done | omega) | (simp only [ByteArray.size_append, bo, List.size_toArray, List.length_cons, List.length_nil]; omega)))))
   have e : pf l = some (cy (l.Durable ++ l.Pending)) := by simp [pf, h]
   rw [e]
   simp only [tn, lz]
   refine al.pick [1] (by decide) (fun j hj => by omega) (.inl ?_) ?_
   · first | rfl | (simp [ren, bg, posOf]; done)
   · simp only [bc, List.map_cons, List.map_nil, bh, List.getElem?_cons_zero, List.getElem?_cons_succ, ae]
end Go.Proofs
end
section
set_option maxRecDepth 100000
namespace Go.Proofs
open Go.Lv
structure ai where
 ab : ab
 Log : Log
def ai.cs (r : ai) : List V := [.int .i64 r.ab.Now, .sl r.ab.Posts.length 3 (Go.Lv.rows az.cs r.ab.Posts), .sl r.ab.Shocks.length 5 (Go.Lv.rows an.cs r.ab.Shocks), .int .i64 r.ab.Next, .int .i64 r.ab.Archived, .str r.Log.Durable, .str r.Log.Pending, .int .i64 r.Log.Count]
def ai.v (r : ai) : V := .agg [.int .i64 r.ab.Now, .sl r.ab.Posts.length 3 (Go.Lv.rows az.cs r.ab.Posts), .sl r.ab.Shocks.length 5 (Go.Lv.rows an.cs r.ab.Shocks), .int .i64 r.ab.Next, .int .i64 r.ab.Archived, .str r.Log.Durable, .str r.Log.Pending, .int .i64 r.Log.Count]
def ai.o (r : ai) (i0 i1 : Nat) : V := .agg [.int .i64 r.ab.Now, .osl i0 0 r.ab.Posts.length 3, .osl i1 0 r.ab.Shocks.length 5, .int .i64 r.ab.Next, .int .i64 r.ab.Archived, .str r.Log.Durable, .str r.Log.Pending, .int .i64 r.Log.Count]
theorem ai.csl (a : ai) : a.cs.length = 8 := rfl
def ai.ok (r : ai) : Prop := r.ab.ok ∧ r.Log.ok
theorem ai.le {h : Hp} {r : ai} {i0 i1 : Nat} (h0 : h[i0]? = some (some (rows az.cs r.ab.Posts))) (h1 : h[i1]? = some (some (rows an.cs r.ab.Shocks))) : LeV (ren (eh h 3) 3 (r.o i0 i1)) r.v := by
 refine .inl ?_
 simp only [ai.o, ai.v, ren, List.map_cons, List.map_nil, eh, h0, h1, ae, List.drop_zero, e9]
theorem zf (r : ai) (hl0 : r.ab.Posts.length ≤ 1048576) (hl1 : r.ab.Shocks.length ≤ 1048576) : Ctr Tryz.prog 46 [r.v] [] (r.o 0 1) [some (rows az.cs r.ab.Posts), some (rows an.cs r.ab.Shocks)] := by
 refine Ctr.intro Tryz.mixed Tryz.func46 rfl Tryz.a42 ?_
 simp -implicitDefEqProofs -dsimp only [go_sem, Tryz.ntmps46, Tryz.results46]
 simp -implicitDefEqProofs -dsimp only [go_sem, ai.v]
 (have ct := ak2 r.ab hl0 hl1; (first | refine ak.at ct ⟨leA, trivial⟩ ?_ | refine aj.at ct ⟨leA, trivial⟩ ?_); clear ct)
 (repeat ((repeat1' (first | simp -implicitDefEqProofs -dsimp only [go_sem, ab.o, ae] | simp -dsimp (disch := omega) only [wrap_i64])); repeat (with_reducible refine ah ?_)))
 (first | refine ak.at (acr r.Log) ⟨leA, trivial⟩ ?_ | refine aj.at (acr r.Log) ⟨leA, trivial⟩ ?_)
 (repeat ((repeat1' (first | simp -implicitDefEqProofs -dsimp only [go_sem, Log.v, ae] | simp -dsimp (disch := omega) only [wrap_i64])); repeat (with_reducible refine ah ?_)))
 refine al.pick [3, 4] (by decide) (fun j hj => by omega) (.inl ?_) ?_
 · rfl
 · simp only [bc, List.map_cons, List.map_nil, bh, List.getElem?_cons_zero, List.getElem?_cons_succ, ae]
theorem x8 (r : ai) (hr : r.ok) (n : Int) (hn : 0 ≤ n) (hn2 : n ≤ 1048576) : ∃ z : Int, (z < 0 ∨ 0 ≤ z ∧ z ≤ n ∧ r.ab.Posts.length ≤ 1048576 ∧ r.ab.Shocks.length ≤ 1048576 ∧ r.Log.Durable.size ≤ 1048576 ∧ r.Log.Pending.size ≤ 1048576) ∧ Ctr Tryz.prog 45 [r.v, .int .i64 n] [] (.int .i64 z) [] := by
 obtain ⟨o0, o1⟩ := hr
 obtain ⟨z0, hz0, c0⟩ := ak5 r.ab o0 n hn hn2
 rcases hz0 with hz0 | hz0
 · refine ⟨-1, .inl (by omega), ?_⟩
   refine Ctr.intro Tryz.mixed Tryz.func45 rfl Tryz.ao3 ?_
   simp -implicitDefEqProofs -dsimp only [go_sem, Tryz.ntmps45, Tryz.results45]
   simp -implicitDefEqProofs -dsimp only [go_sem, ai.v]
   (first | refine ak.at (c0) ⟨leA, leA, trivial⟩ ?_ | refine aj.at (c0) ⟨leA, leA, trivial⟩ ?_)
   simp -implicitDefEqProofs -dsimp only [go_sem]
   refine bd.split (fun hh => ?_) (fun hh => absurd hz0 (by simpa using hh))
   simp -implicitDefEqProofs -dsimp only [go_sem, hh]
   exact al.ax rfl (by rfl)
 obtain ⟨z1, hz1, c1⟩ := aji r.Log o1 z0 hz0.1 (by omega)
 rcases hz1 with hz1 | hz1
 · refine ⟨-1, .inl (by omega), ?_⟩
   refine Ctr.intro Tryz.mixed Tryz.func45 rfl Tryz.ao3 ?_
   simp -implicitDefEqProofs -dsimp only [go_sem, Tryz.ntmps45, Tryz.results45]
   simp -implicitDefEqProofs -dsimp only [go_sem, ai.v]
   (first | refine ak.at (c0) ⟨leA, leA, trivial⟩ ?_ | refine aj.at (c0) ⟨leA, leA, trivial⟩ ?_)
   simp -implicitDefEqProofs -dsimp only [go_sem]
   refine bd.split (fun hh => absurd hh (by simp; omega)) (fun hh => ?_)
   simp -implicitDefEqProofs -dsimp only [go_sem, hh]
   (first | refine ak.at (c1) ⟨leA, leA, trivial⟩ ?_ | refine aj.at (c1) ⟨leA, leA, trivial⟩ ?_)
   simp -implicitDefEqProofs -dsimp only [go_sem]
   refine bd.split (fun hh => ?_) (fun hh => absurd hz1 (by simpa using hh))
   simp -implicitDefEqProofs -dsimp only [go_sem, hh]
   exact al.ax rfl (by rfl)
 · refine ⟨z1, .inr ⟨by omega, by omega, by omega, by omega, by omega, by omega⟩, ?_⟩
   refine Ctr.intro Tryz.mixed Tryz.func45 rfl Tryz.ao3 ?_
   simp -implicitDefEqProofs -dsimp only [go_sem, Tryz.ntmps45, Tryz.results45]
   simp -implicitDefEqProofs -dsimp only [go_sem, ai.v]
   (first | refine ak.at (c0) ⟨leA, leA, trivial⟩ ?_ | refine aj.at (c0) ⟨leA, leA, trivial⟩ ?_)
   simp -implicitDefEqProofs -dsimp only [go_sem]
   refine bd.split (fun hh => absurd hh (by simp; omega)) (fun hh => ?_)
   simp -implicitDefEqProofs -dsimp only [go_sem, hh]
   (first | refine ak.at (c1) ⟨leA, leA, trivial⟩ ?_ | refine aj.at (c1) ⟨leA, leA, trivial⟩ ?_)
   simp -implicitDefEqProofs -dsimp only [go_sem]
   refine bd.split (fun hh => absurd hh (by simp; omega)) (fun hh => ?_)
   simp -implicitDefEqProofs -dsimp only [go_sem, hh]
   exact al.ax rfl (by rfl)
theorem ta (r : ai) (hl0 : r.ab.Posts.length ≤ 281474976710656) (hl1 : r.ab.Shocks.length ≤ 281474976710656) : Ctr Tryz.prog 47 [r.v, r.v] [] (.bool true) [] := by
 refine Ctr.intro Tryz.mixed Tryz.func47 rfl Tryz.a3f ?_
 simp -implicitDefEqProofs -dsimp only [go_sem, Tryz.ntmps47, Tryz.results47]
 simp -implicitDefEqProofs -dsimp only [go_sem, ai.v]
 (have ct := ali r.ab hl0 hl1; (first | refine ak.at ct ⟨leA, leA, trivial⟩ ?_ | refine aj.at ct ⟨leA, leA, trivial⟩ ?_); clear ct)
 simp -implicitDefEqProofs -dsimp only [go_sem]
 (first | refine ak.at (aju r.Log) ⟨leA, leA, trivial⟩ ?_ | refine aj.at (aju r.Log) ⟨leA, leA, trivial⟩ ?_)
 simp -implicitDefEqProofs -dsimp only [go_sem]
 exact al.ax rfl (by rfl)
end Go.Proofs
end
section
set_option maxRecDepth 100000
namespace Go.Proofs
open Go.Lv
def agy (x y : Int) : Bool := eb x 0 999 && eb y 0 999
theorem afh (n : Int) : Ctr Tryz.prog 62 [.int .i64 n] [] (.bool (eb n 0 1000000)) [] := by
 refine Ctr.intro Tryz.mixed Tryz.func62 rfl Tryz.a5g ?_
 simp -implicitDefEqProofs -dsimp only [go_sem, Tryz.ntmps62, Tryz.results62]
 repeat' (first | (refine al.ax ?_ (by rfl); first | rfl | (simp [agy, *]; done)) | ((first | refine ak.at (jy _ _ _) ⟨leA, leA, leA, trivial⟩ ?_ | refine aj.at (jy _ _ _) ⟨leA, leA, leA, trivial⟩ ?_); simp -implicitDefEqProofs -dsimp only [go_sem, *]) | (refine a8.bu (fun _ => ?_) (fun _ => ?_) <;> simp -implicitDefEqProofs -dsimp only [go_sem, *]) | (refine a8.ch (fun _ => ?_) (fun _ => ?_) <;> simp -implicitDefEqProofs -dsimp only [go_sem, *]) | (refine bd.split (fun _ => ?_) (fun _ => ?_) <;> simp -implicitDefEqProofs -dsimp only [go_sem, *]))
theorem ae8 (n : Int) : Ctr Tryz.prog 79 [.int .i64 n] [] (.bool (eb n 0 1000000)) [] := by
 refine Ctr.intro Tryz.mixed Tryz.func79 rfl Tryz.a4g ?_
 simp -implicitDefEqProofs -dsimp only [go_sem, Tryz.ntmps79, Tryz.results79]
 repeat' (first | (refine al.ax ?_ (by rfl); first | rfl | (simp [agy, *]; done)) | ((first | refine ak.at (ff _ _ _) ⟨leA, leA, leA, trivial⟩ ?_ | refine aj.at (ff _ _ _) ⟨leA, leA, leA, trivial⟩ ?_); simp -implicitDefEqProofs -dsimp only [go_sem, *]) | (refine a8.bu (fun _ => ?_) (fun _ => ?_) <;> simp -implicitDefEqProofs -dsimp only [go_sem, *]) | (refine a8.ch (fun _ => ?_) (fun _ => ?_) <;> simp -implicitDefEqProofs -dsimp only [go_sem, *]) | (refine bd.split (fun _ => ?_) (fun _ => ?_) <;> simp -implicitDefEqProofs -dsimp only [go_sem, *]))
theorem uj (n : Int) : Ctr Tryz.prog 164 [.int .i64 n] [] (.bool (eb n 1 99)) [] := by
 refine Ctr.intro Tryz.mixed Tryz.func164 rfl Tryz.ay8 ?_
 simp -implicitDefEqProofs -dsimp only [go_sem, Tryz.ntmps164, Tryz.results164]
 repeat' (first | (refine al.ax ?_ (by rfl); first | rfl | (simp [agy, *]; done)) | ((first | refine ak.at (jy _ _ _) ⟨leA, leA, leA, trivial⟩ ?_ | refine aj.at (jy _ _ _) ⟨leA, leA, leA, trivial⟩ ?_); simp -implicitDefEqProofs -dsimp only [go_sem, *]) | (refine a8.bu (fun _ => ?_) (fun _ => ?_) <;> simp -implicitDefEqProofs -dsimp only [go_sem, *]) | (refine a8.ch (fun _ => ?_) (fun _ => ?_) <;> simp -implicitDefEqProofs -dsimp only [go_sem, *]) | (refine bd.split (fun _ => ?_) (fun _ => ?_) <;> simp -implicitDefEqProofs -dsimp only [go_sem, *]))
theorem ly (n : Int) : Ctr Tryz.prog 166 [.int .i64 n] [] (.bool (eb n (-20) 95)) [] := by
 refine Ctr.intro Tryz.mixed Tryz.func166 rfl Tryz.axf ?_
 simp -implicitDefEqProofs -dsimp only [go_sem, Tryz.ntmps166, Tryz.results166]
 repeat' (first | (refine al.ax ?_ (by rfl); first | rfl | (simp [agy, *]; done)) | ((first | refine ak.at (jy _ _ _) ⟨leA, leA, leA, trivial⟩ ?_ | refine aj.at (jy _ _ _) ⟨leA, leA, leA, trivial⟩ ?_); simp -implicitDefEqProofs -dsimp only [go_sem, *]) | (refine a8.bu (fun _ => ?_) (fun _ => ?_) <;> simp -implicitDefEqProofs -dsimp only [go_sem, *]) | (refine a8.ch (fun _ => ?_) (fun _ => ?_) <;> simp -implicitDefEqProofs -dsimp only [go_sem, *]) | (refine bd.split (fun _ => ?_) (fun _ => ?_) <;> simp -implicitDefEqProofs -dsimp only [go_sem, *]))
end Go.Proofs
end
