/-
  A part of the proof: texts put together by a program of the prover. Conditions: none.
-/
import Derived.Test.YtfpkiomipjmabaaGreatDoorZC9
import Derived.Test.YtfpkiomipjmabaaGreatDoorZC14
import Derived.Test.YtfpkiomipjmabaaGreatDoorZC25
set_option linter.unusedSimpArgs false
set_option linter.unusedVariables false
section
set_option maxRecDepth 100000
set_option maxHeartbeats 2000000
namespace Go.Proofs
open Go.Lv
def afv (n : Nat) (out : ByteArray) : ByteArray := if n = 0 then out else afv (n / 10) (strOfNums [48 + ((n % 10 : Nat) : Int)] ++ out)
termination_by n
decreasing_by omega
def mkT (k : Int) : ByteArray := if k ≤ 0 then ⟨#[109, 48]⟩ else ⟨#[109]⟩ ++ afv k.toNat ByteArray.empty
theorem wrap_u8 {x : Int} (h0 : 0 ≤ x) (h1 : x ≤ 255) : IntKind.u8.wrap x = x := by
 simp only [IntKind.wrap]
 simp [IntKind.bits, IntKind.signed] <;> omega
theorem u9 (k : Int) (hk : k ≤ 281474976710656) : Ctr Tryz.prog 112 [.int .i64 k] [] (.str (mkT k)) [] := by
 refine Ctr.intro Tryz.mixed Tryz.func112 rfl Tryz.azn ?_
 simp -implicitDefEqProofs -dsimp only [go_sem, Tryz.ntmps112, Tryz.results112]
 refine bd.split (fun h1 => ?_) (fun h1 => ?_) <;> simp -implicitDefEqProofs -dsimp only [go_sem, h1]
 · exact al.ax (by rw [mkT, if_pos (by simpa using h1)]) rfl
 have h1' : ¬ k ≤ 0 := by simpa using h1
 refine cw.intro (fun x : Nat × ByteArray => afv x.1 x.2 = afv k.toNat ByteArray.empty ∧ x.1 + x.2.size ≤ 281474976710656) (fun x => ⟨[.int .i64 (x.1 : Int), .undef, .undef, .str x.2, .undef, .undef, .undef, .undef, .undef, .undef, .undef, .undef, .undef, .undef, .undef, .undef, .undef, .undef, .undef, .undef], [], 0⟩) (fun x => x.1) (k.toNat, ByteArray.empty) ⟨rfl, by show k.toNat + 0 ≤ _; omega⟩ ?_ (fun x hx => ?_)
 · refine br.cut (0) (by simp) (by simp) ?_ ?_
   · have : ((k.toNat : Nat) : Int) = k := by omega
     simp [LeC, LeV, ren, bm, this]
     rfl
   · rfl
 obtain ⟨n, out⟩ := x
 obtain ⟨hx1, hx2⟩ := hx
 dsimp only at hx1 hx2
 simp -implicitDefEqProofs -dsimp only [go_sem]
 refine bd.split (fun h2 => ?_) (fun h2 => ?_)
 · simp -implicitDefEqProofs -dsimp only [go_sem, h2]
   have hn : 0 < n := by simpa using h2
   have hm : (n : Int).tmod 10 = ((n % 10 : Nat) : Int) := by rw [Int.tmod_eq_emod_of_nonneg (by omega)]; omega
   have hq : (n : Int).tdiv 10 = ((n / 10 : Nat) : Int) := by rw [Int.tdiv_eq_ediv_of_nonneg (by omega)]; omega
   have hu := wrap_u8 (x := 48 + ((n % 10 : Nat) : Int)) (by omega) (by omega)
   (repeat ((repeat1' (first | simp -implicitDefEqProofs -dsimp only [go_sem, hm, hq, hu] | simp -dsimp (disch := omega) only [wrap_i64])); repeat (with_reducible refine And.intro ?_ ?_; focus (first | omega | with_reducible rfl | (show bp _ = true; kernel_rfl) | (simp only [ay, bb, List.length_append, List.length_cons, List.length_nil, List.all_append, List.all_cons, List.all_nil, bq, Nat.mul_one, Nat.one_mul, Bool.and_self]; first | done | omega) | (simp only [ByteArray.size_append, bo, List.size_toArray, List.length_cons, List.length_nil]; omega)))))
   have z1 : (strOfNums [48 + ((n % 10 : Nat) : Int)]).size = 1 := rfl
   refine ⟨by omega, by omega, (n / 10, strOfNums [48 + ((n % 10 : Nat) : Int)] ++ out), ⟨?_, ?_⟩, ?_, by show n / 10 < n; omega⟩
   · rw [← hx1]
     conv => rhs; rw [afv, if_neg (by omega)]
   · rw [ByteArray.size_append, z1]; show n / 10 + _ ≤ _; omega
   · refine br.cut (0) (by simp) (by simp) ?_ ?_
     · simp [LeC, LeV, ren, bm]
     · rfl
 · simp -implicitDefEqProofs -dsimp only [go_sem, h2]
   have hn : n = 0 := by simp at h2; omega
   subst hn
   rw [afv] at hx1
   simp only [if_true] at hx1
   have z1 : (#[109] : Array UInt8).size = 1 := rfl
   refine ⟨by omega, al.ax (by rw [mkT, if_neg h1', ← hx1]) rfl⟩
def aw.mk1 (k : Int) : aw := ⟨mkT k, mkT (k + 1)⟩
def aw.marks (k : Int) (n : Nat) : List aw := (List.range n).map fun i : Nat => aw.mk1 (k + 2 * (i : Int))
@[simp] theorem aw.dr (k : Int) (n : Nat) : (aw.marks k n).length = n := by simp [aw.marks]
theorem aw.ik (k : Int) (n : Nat) : aw.marks k (n + 1) = aw.marks k n ++ [aw.mk1 (k + 2 * (n : Int))] := by simp [aw.marks, List.range_succ]
theorem aw.jf (k : Int) (n : Nat) {i : Nat} (hi : i < (aw.marks k n).length) : (aw.marks k n)[i] = aw.mk1 (k + 2 * (i : Int)) := by simp [aw.marks]
end Go.Proofs
end
section
set_option maxRecDepth 100000
set_option maxHeartbeats 4000000
namespace Go.Proofs
open Go.Lv
theorem aq {x y : V} (h : LeV x y := by first | exact leA | exact ai.le rfl rfl) : LeV x y := h
theorem xi {α β : Type} {cs : α → List V} {ds : β → List V} {w u : Nat} [nf cs w] [nf ds u] {L L' : List α} {M M' : List β} (h : L.length = L'.length) (h' : M.length = M'.length) : grown [some (rows cs L), some (rows ds M)] [some (rows cs L'), some (rows ds M')] :=
 ⟨(jh (cs := cs) h).1, jh (cs := ds) h'⟩
theorem ai3 (c : ai) (kk : Int) (hl0 : c.ab.Posts.length ≤ 16777216) (hl1 : c.ab.Shocks.length ≤ 16777216) (hk : 0 ≤ kk) (hk2 : kk ≤ 16777216) : Ctr Tryz.prog 48 [c.o 0 1, .int .i64 kk] [some (rows az.cs c.ab.Posts), some (rows an.cs c.ab.Shocks)] (.int .i64 (kk + 3 * (c.ab.Posts.length : Int) + 5 * (c.ab.Shocks.length : Int))) [some (rows az.cs (az.marks kk c.ab.Posts.length)), some (rows an.cs (an.marks (kk + 3 * (c.ab.Posts.length : Int)) c.ab.Shocks.length))] := by
 refine Ctr.intro Tryz.mixed Tryz.func48 rfl Tryz.avq ?_
 simp -implicitDefEqProofs -dsimp only [go_sem, Tryz.ntmps48, Tryz.results48]
 (repeat ((repeat1' (first | simp -implicitDefEqProofs -dsimp only [go_sem, ai.o] | simp -dsimp (disch := omega) only [wrap_i64])); repeat (with_reducible refine ah ?_)))
 refine aj.qb [0, 1] false ( y7 c.ab kk hl0 hl1 hk hk2) (by decide) ⟨leO, leO, trivial⟩ rr ( xi (by simp) (by simp)) (.inl rfl) ?_
 (repeat ((repeat1' (first | simp -implicitDefEqProofs -dsimp only [go_sem] | simp -dsimp (disch := omega) only [wrap_i64])); repeat (with_reducible refine ah ?_)))
 refine al.pick [0, 1] (by decide) (by decide) (.inl rfl) ?_
 simp only [bc, List.map_cons, List.map_nil, bh, List.getElem?_cons_zero, List.getElem?_cons_succ, ae]
def StringS.marks (k : Int) (n : Nat) : List ByteArray := (List.range n).map fun i : Nat => mkT (k + (i : Int))
@[simp] theorem StringS.dr (k : Int) (n : Nat) : (StringS.marks k n).length = n := by simp [StringS.marks]
theorem StringS.ik (k : Int) (n : Nat) : StringS.marks k (n + 1) = StringS.marks k n ++ [mkT (k + (n : Int))] := by simp [StringS.marks, List.range_succ]
theorem StringS.jf (k : Int) (n : Nat) {i : Nat} (hi : i < (StringS.marks k n).length) : (StringS.marks k n)[i] = mkT (k + (i : Int)) := by simp [StringS.marks]
theorem abr (kk : Int) : Ctr Tryz.prog 51 [.sl 0 1 [], .int .i64 kk] [] (.int .i64 kk) [] := by
 refine Ctr.intro Tryz.mixed Tryz.func51 rfl Tryz.avl ?_
 simp -implicitDefEqProofs -dsimp only [go_sem, Tryz.ntmps51, Tryz.results51]
 refine cw.intro (fun i : Nat => i = 0) (fun i => ⟨[.sl 0 1 [], .int .i64 kk, .undef, .undef, .undef, .int .i64 0, .undef, .undef, .undef, .undef, .undef, .undef, .undef, .undef, .undef, .undef, .undef, .undef, .undef, .undef], [], 0⟩) (fun i => 0) 0 rfl ?_ (fun i hi => ?_)
 · refine br.cut (0) (by simp) (by simp) ?_ ?_
   · simp [LeC, LeV, ren, bm]
   · rfl
 simp -implicitDefEqProofs -dsimp only [go_sem, Int.natCast_zero, Int.lt_irrefl, decide_false]
 exact al.refl _ _ _
theorem adv (L : List ByteArray) (kk : Int) (hl : L.length ≤ 1048576) (hk : 0 ≤ kk) (hk2 : kk ≤ 1048576) : Ctr Tryz.prog 51 [.osl 0 0 L.length 1, .int .i64 kk] [some (rows StringS.cs L)] (.int .i64 (kk + (L.length : Int))) [some (rows StringS.cs (StringS.marks kk L.length))] := by
 refine Ctr.intro Tryz.mixed Tryz.func51 rfl Tryz.avl ?_
 simp -implicitDefEqProofs -dsimp only [go_sem, Tryz.ntmps51, Tryz.results51]
 refine cw.intro (fun i : Nat => i ≤ L.length) (fun i => ⟨[.osl 0 0 L.length 1, .int .i64 (kk + (i : Int)), .undef, .undef, .undef, .int .i64 i, .undef, .undef, .undef, .undef, .undef, .undef, .undef, .undef, .undef, .undef, .undef, .undef, .undef, .undef], [some (rows StringS.cs (StringS.marks kk i ++ L.drop i))], 1⟩) (fun i => L.length - i) 0 (Nat.zero_le _) ?_ (fun i hi => ?_)
 · refine br.cut (1) (by simp) (by simp) ?_ ?_
   · simp [LeC, LeV, ren, bm]
   · simp only [cb, List.take, List.map]
     rw [gz (ia StringS.csp _)]
     simp [StringS.marks]
 simp -implicitDefEqProofs -dsimp only [go_sem]
 refine bd.split (fun h1 => ?_) (fun h1 => ?_)
 · simp -implicitDefEqProofs -dsimp only [go_sem, h1]
   have hi' : i < L.length := by have := of_decide_eq_true h1; omega
   have hA : (rows StringS.cs (StringS.marks kk i)).length = i := by rw [je StringS.csl, StringS.dr, Nat.mul_one]
   have hB : rows StringS.cs (StringS.marks kk i ++ L.drop i) = rows StringS.cs (StringS.marks kk i) ++ (StringS.cs L[i] ++ rows StringS.cs (L.drop (i + 1))) := by
     rw [cu, List.drop_eq_getElem_cons hi', dq]
   rw [hB]
   have hsp : ∀ (M ns : List V), ck (rows StringS.cs (StringS.marks kk i) ++ M) i ns = rows StringS.cs (StringS.marks kk i) ++ ck M 0 ns := fun M ns => qc hA
   (have ct := u9 (kk + (i : Int)) (by omega); (first | refine ak.at ct ⟨aq, trivial⟩ ?_ | refine aj.at ct ⟨aq, trivial⟩ ?_); clear ct)
   (repeat1' (first | simp -implicitDefEqProofs -dsimp only [go_sem, hsp, List.length_append, hA, StringS.cs, Nat.mul_one] | simp -dsimp (disch := omega) only [wrap_i64]))
   repeat (with_reducible refine ah ?_)
   refine ⟨i + 1, hi', ?_, by omega⟩
   refine br.cut (1) (by simp) (by simp) ?_ ?_
   · simp [LeC, LeV, ren, bm]
     omega
   · have e : rows StringS.cs (StringS.marks kk (i + 1) ++ L.drop (i + 1)) = rows StringS.cs (StringS.marks kk i) ++ (StringS.cs (mkT (kk + (i : Int))) ++ rows StringS.cs (L.drop (i + 1))) := by
       rw [StringS.ik, List.append_assoc, cu, cu, vi]
     rw [e]
     simp only [cb, List.take, List.map]
     rw [gz (by rw [List.all_append, ia StringS.csp]; simp only [List.all_cons, cc, ia StringS.csp, Bool.and_self])]
     simp [StringS.cs]
 · simp -implicitDefEqProofs -dsimp only [go_sem, h1]
   have hi' : i = L.length := by have := of_decide_eq_false h1; omega
   subst hi'
   rw [List.drop_length, List.append_nil]
   exact al.of_eq (by simp)
theorem vf (n : Nat) (kk : Int) (hl : n ≤ 1048576) (hk : 0 ≤ kk) (hk2 : kk ≤ 1048576) : Ctr Tryz.prog 52 [StringS.sl (StringS.marks kk n), .int .i64 kk] [] (.int .i64 (kk + (n : Int))) [] := by
 refine Ctr.intro Tryz.mixed Tryz.func52 rfl Tryz.a35 ?_
 simp -implicitDefEqProofs -dsimp only [go_sem, Tryz.ntmps52, Tryz.results52]
 refine cw.intro (fun i : Nat => i ≤ n) (fun i => ⟨[StringS.sl (StringS.marks kk n), .int .i64 (kk + (i : Int)), .undef, .undef, .undef, .int .i64 i, .undef, .undef, .undef, .undef, .undef, .undef, .undef, .undef, .undef, .undef, .undef, .undef, .undef, .undef, .undef, .undef], [], 0⟩) (fun i => n - i) 0 (Nat.zero_le _) ?_ (fun i hi => ?_)
 · refine br.cut (0) (by simp) (by simp) ?_ ?_
   · simp [LeC, LeV, ren, bm]
   · rfl
 simp -implicitDefEqProofs -dsimp only [go_sem]
 refine bd.split (fun h1 => ?_) (fun h1 => ?_)
 · simp -implicitDefEqProofs -dsimp only [go_sem, h1]
   have hi' : i < n := by simpa using h1
   have hr := bt StringS.csl (L := StringS.marks kk n) (i := i) (by rw [StringS.dr]; exact hi')
   rw [StringS.jf] at hr
   (repeat1' (first | simp -implicitDefEqProofs -dsimp only [go_sem, hr, StringS.dr, StringS.cs] | simp -dsimp (disch := omega) only [wrap_i64]))
   repeat (with_reducible refine ah ?_)
   (first | refine ak.at (u9 (kk + (i : Int)) (by omega)) ⟨.inl rfl, trivial⟩ ?_ | refine aj.at (u9 (kk + (i : Int)) (by omega)) ⟨.inl rfl, trivial⟩ ?_)
   (repeat1' (first | simp -implicitDefEqProofs -dsimp only [go_sem, hr, StringS.dr, StringS.cs, bne_self_eq_false, beq_self_eq_true, Bool.not_true] | simp -dsimp (disch := omega) only [wrap_i64]))
   repeat (with_reducible refine ah ?_)
   refine ⟨i + 1, hi', ?_, by omega⟩
   refine br.cut (0) (by simp) (by simp) ?_ ?_
   · simp [LeC, LeV, ren, bm]
     omega
   · rfl
 · simp -implicitDefEqProofs -dsimp only [go_sem, h1]
   have hi' : i = n := by simp at h1; omega
   subst hi'
   exact al.of_eq (by simp)
theorem abk (kk : Int) (hk : 0 ≤ kk) (hk2 : kk ≤ 1048576) : Ctr Tryz.prog 52 [.sl 0 1 [], .int .i64 kk] [] (.int .i64 kk) [] := by
 have := vf 0 kk (by omega) hk hk2
 simpa [StringS.sl, StringS.marks, rows] using this
theorem ai9 {c : ai} {text : ByteArray} {M : List ByteArray} (h : l5 c text = some M) : M.length ≤ 30 := by
 unfold l5 at h
 split at h
 · rename_i hb
   simp only [atm, Bool.and_eq_true, decide_eq_true_eq] at hb
   have := wh c (gw 10 text) _ (Nat.le_refl _)
   rw [List.take_length] at this
   simp only [Option.some.injEq] at h
   rw [← h]; omega
 · cases h
theorem ado (c : ai) (text : ByteArray) (hc : c.ok) (hln : agl text) : Ctr Tryz.prog 8 [c.v, .str text] [] (.bool true) [] := by
 obtain ⟨z, hz, hcz⟩ := x8 c hc 1048576 (by omega) (by omega)
 refine Ctr.intro Tryz.mixed Tryz.func8 rfl Tryz.okF8 ?_
 simp -implicitDefEqProofs -dsimp only [go_sem, Tryz.ntmps8, Tryz.results8]
 (repeat ((repeat1' (first | simp -implicitDefEqProofs -dsimp only [go_sem, ai.v] | simp -dsimp (disch := omega) only [wrap_i64])); repeat (with_reducible refine ah ?_)))
 refine bd.split (fun h0 => ?_) (fun h0 => ?_) <;> (repeat ((repeat1' (first | simp -implicitDefEqProofs -dsimp only [go_sem, h0] | simp -dsimp (disch := omega) only [wrap_i64])); repeat (with_reducible refine ah ?_)))
 · exact al.ax rfl rfl
 have hl : text.size ≤ 1048576 := by have := of_decide_eq_false h0; omega
 clear h0
 (first | refine ak.at (hcz) ⟨aq, aq, trivial⟩ ?_ | refine aj.at (hcz) ⟨aq, aq, trivial⟩ ?_)
 simp -implicitDefEqProofs -dsimp only [go_sem]
 refine bd.split (fun h1 => ?_) (fun h1 => ?_) <;> simp -implicitDefEqProofs -dsimp only [go_sem, h1]
 · exact al.ax rfl rfl
 obtain ⟨_, _, hp, hs, hd, hpe⟩ : 0 ≤ z ∧ z ≤ 1048576 ∧ c.ab.Posts.length ≤ 1048576 ∧ c.ab.Shocks.length ≤ 1048576 ∧ c.Log.Durable.size ≤ 1048576 ∧ c.Log.Pending.size ≤ 1048576 := by
   simp at h1; rcases hz with hz | hz
   · omega
   · exact hz
 clear h1
 have hf : c.sz 0 := ⟨hp, hs, hd, by omega⟩
 have cs := aew c text hf (by omega)
 have ci := aen c text hf (by omega)
 have hto := zf c hp hs
 have hE := ta c (by omega) (by omega)
 have hm0 := ai3 c 1 (by omega) (by omega) (by omega) (by omega)
 have hk0 : decide (1 + 3 * (c.ab.Posts.length : Int) + 5 * (c.ab.Shocks.length : Int) < 0) = false := decide_eq_false (by omega)
 cases hR : l5 c text with
 | none =>
   rw [hR] at cs ci
   simp only [tn, lz, ri, ki] at cs ci
   have he := zm [] (by simp)
   have hms := abr 1
   have hhe := abk 1 (by omega) (by omega)
   (first | refine ak.at (hto) ⟨aq, trivial⟩ ?_ | refine aj.at (hto) ⟨aq, trivial⟩ ?_)
   (repeat ((repeat1' (first | simp -implicitDefEqProofs -dsimp only [go_sem, ai.o] | simp -dsimp (disch := omega) only [wrap_i64])); repeat (with_reducible refine ah ?_)))
   (first | refine ak.at (cs) ⟨aq, aq, trivial⟩ ?_ | refine aj.at (cs) ⟨aq, aq, trivial⟩ ?_)
   (repeat ((repeat1' (first | simp -implicitDefEqProofs -dsimp only [go_sem, ai.o] | simp -dsimp (disch := omega) only [wrap_i64])); repeat (with_reducible refine ah ?_)))
   (first | refine ak.at (hto) ⟨aq, trivial⟩ ?_ | refine aj.at (hto) ⟨aq, trivial⟩ ?_)
   (repeat ((repeat1' (first | simp -implicitDefEqProofs -dsimp only [go_sem, ai.o] | simp -dsimp (disch := omega) only [wrap_i64])); repeat (with_reducible refine ah ?_)))
   (first | refine ak.at (ci) ⟨aq, aq, trivial⟩ ?_ | refine aj.at (ci) ⟨aq, aq, trivial⟩ ?_)
   (repeat ((repeat1' (first | simp -implicitDefEqProofs -dsimp only [go_sem, ai.o] | simp -dsimp (disch := omega) only [wrap_i64])); repeat (with_reducible refine ah ?_)))
   (first | refine ak.at (he) ⟨aq, aq, trivial⟩ ?_ | refine aj.at (he) ⟨aq, aq, trivial⟩ ?_)
   (repeat ((repeat1' (first | simp -implicitDefEqProofs -dsimp only [go_sem] | simp -dsimp (disch := omega) only [wrap_i64])); repeat (with_reducible refine ah ?_)))
   (first | refine ak.at (hto) ⟨aq, trivial⟩ ?_ | refine aj.at (hto) ⟨aq, trivial⟩ ?_)
   (repeat ((repeat1' (first | simp -implicitDefEqProofs -dsimp only [go_sem, ai.o] | simp -dsimp (disch := omega) only [wrap_i64])); repeat (with_reducible refine ah ?_)))
   (first | refine ak.at (hE) ⟨aq, aq, trivial⟩ ?_ | refine aj.at (hE) ⟨aq, aq, trivial⟩ ?_)
   (repeat ((repeat1' (first | simp -implicitDefEqProofs -dsimp only [go_sem] | simp -dsimp (disch := omega) only [wrap_i64])); repeat (with_reducible refine ah ?_)))
   refine aj.qb [4, 5] false ( hm0) (by decide) ⟨leO, leO, trivial⟩ rr ( xi (by simp) (by simp)) (.inl rfl) ?_
   (repeat ((repeat1' (first | simp -implicitDefEqProofs -dsimp only [go_sem, hk0] | simp -dsimp (disch := omega) only [wrap_i64])); repeat (with_reducible refine ah ?_)))
   (first | refine ak.at (he) ⟨aq, aq, trivial⟩ ?_ | refine aj.at (he) ⟨aq, aq, trivial⟩ ?_)
   (repeat ((repeat1' (first | simp -implicitDefEqProofs -dsimp only [go_sem] | simp -dsimp (disch := omega) only [wrap_i64])); repeat (with_reducible refine ah ?_)))
   (first | refine ak.at (hms) ⟨aq, aq, trivial⟩ ?_ | refine aj.at (hms) ⟨aq, aq, trivial⟩ ?_)
   (repeat ((repeat1' (first | simp -implicitDefEqProofs -dsimp only [go_sem] | simp -dsimp (disch := omega) only [wrap_i64])); repeat (with_reducible refine ah ?_)))
   (first | refine ak.at (hhe) ⟨aq, aq, trivial⟩ ?_ | refine aj.at (hhe) ⟨aq, aq, trivial⟩ ?_)
   (repeat ((repeat1' (first | simp -implicitDefEqProofs -dsimp only [go_sem] | simp -dsimp (disch := omega) only [wrap_i64])); repeat (with_reducible refine ah ?_)))
   (first | refine ak.at (hto) ⟨aq, trivial⟩ ?_ | refine aj.at (hto) ⟨aq, trivial⟩ ?_)
   (repeat ((repeat1' (first | simp -implicitDefEqProofs -dsimp only [go_sem, ai.o] | simp -dsimp (disch := omega) only [wrap_i64])); repeat (with_reducible refine ah ?_)))
   (first | refine ak.at (ci) ⟨aq, aq, trivial⟩ ?_ | refine aj.at (ci) ⟨aq, aq, trivial⟩ ?_)
   (repeat ((repeat1' (first | simp -implicitDefEqProofs -dsimp only [go_sem, ai.o] | simp -dsimp (disch := omega) only [wrap_i64])); repeat (with_reducible refine ah ?_)))
   (first | refine ak.at (he) ⟨aq, aq, trivial⟩ ?_ | refine aj.at (he) ⟨aq, aq, trivial⟩ ?_)
   (repeat ((repeat1' (first | simp -implicitDefEqProofs -dsimp only [go_sem] | simp -dsimp (disch := omega) only [wrap_i64])); repeat (with_reducible refine ah ?_)))
   (first | refine ak.at (hhe) ⟨aq, aq, trivial⟩ ?_ | refine aj.at (hhe) ⟨aq, aq, trivial⟩ ?_)
   (repeat ((repeat1' (first | simp -implicitDefEqProofs -dsimp only [go_sem] | simp -dsimp (disch := omega) only [wrap_i64])); repeat (with_reducible refine ah ?_)))
   exact al.ax rfl (by rfl)
 | some M =>
   rw [hR] at cs ci
   simp only [tn, lz, ri, ki] at cs ci
   have hM := ai9 hR
   have he := zm M (by omega)
   have hms := adv M 1 (by omega) (by omega) (by omega)
   have hhe := vf M.length 1 (by omega) (by omega) (by omega)
   have hk1 : decide (1 + (M.length : Int) < 0) = false := decide_eq_false (by omega)
   (first | refine ak.at (hto) ⟨aq, trivial⟩ ?_ | refine aj.at (hto) ⟨aq, trivial⟩ ?_)
   (repeat ((repeat1' (first | simp -implicitDefEqProofs -dsimp only [go_sem, ai.o] | simp -dsimp (disch := omega) only [wrap_i64])); repeat (with_reducible refine ah ?_)))
   (first | refine ak.at (cs) ⟨aq, aq, trivial⟩ ?_ | refine aj.at (cs) ⟨aq, aq, trivial⟩ ?_)
   (repeat ((repeat1' (first | simp -implicitDefEqProofs -dsimp only [go_sem, ai.o] | simp -dsimp (disch := omega) only [wrap_i64])); repeat (with_reducible refine ah ?_)))
   (first | refine ak.at (hto) ⟨aq, trivial⟩ ?_ | refine aj.at (hto) ⟨aq, trivial⟩ ?_)
   (repeat ((repeat1' (first | simp -implicitDefEqProofs -dsimp only [go_sem, ai.o] | simp -dsimp (disch := omega) only [wrap_i64])); repeat (with_reducible refine ah ?_)))
   (first | refine ak.at (ci) ⟨aq, aq, trivial⟩ ?_ | refine aj.at (ci) ⟨aq, aq, trivial⟩ ?_)
   (repeat ((repeat1' (first | simp -implicitDefEqProofs -dsimp only [go_sem, ai.o] | simp -dsimp (disch := omega) only [wrap_i64])); repeat (with_reducible refine ah ?_)))
   (first | refine ak.at (he) ⟨aq, aq, trivial⟩ ?_ | refine aj.at (he) ⟨aq, aq, trivial⟩ ?_)
   (repeat ((repeat1' (first | simp -implicitDefEqProofs -dsimp only [go_sem] | simp -dsimp (disch := omega) only [wrap_i64])); repeat (with_reducible refine ah ?_)))
   (first | refine ak.at (hto) ⟨aq, trivial⟩ ?_ | refine aj.at (hto) ⟨aq, trivial⟩ ?_)
   (repeat ((repeat1' (first | simp -implicitDefEqProofs -dsimp only [go_sem, ai.o] | simp -dsimp (disch := omega) only [wrap_i64])); repeat (with_reducible refine ah ?_)))
   (first | refine ak.at (hE) ⟨aq, aq, trivial⟩ ?_ | refine aj.at (hE) ⟨aq, aq, trivial⟩ ?_)
   (repeat ((repeat1' (first | simp -implicitDefEqProofs -dsimp only [go_sem] | simp -dsimp (disch := omega) only [wrap_i64])); repeat (with_reducible refine ah ?_)))
   refine aj.qb [4, 5] false ( hm0) (by decide) ⟨leO, leO, trivial⟩ rr ( xi (by simp) (by simp)) (.inl rfl) ?_
   (repeat ((repeat1' (first | simp -implicitDefEqProofs -dsimp only [go_sem, hk0] | simp -dsimp (disch := omega) only [wrap_i64])); repeat (with_reducible refine ah ?_)))
   (first | refine ak.at (he) ⟨aq, aq, trivial⟩ ?_ | refine aj.at (he) ⟨aq, aq, trivial⟩ ?_)
   (repeat ((repeat1' (first | simp -implicitDefEqProofs -dsimp only [go_sem] | simp -dsimp (disch := omega) only [wrap_i64])); repeat (with_reducible refine ah ?_)))
   refine aj.qb [7] false ( hms) (by decide) ⟨leO, leO, trivial⟩ rr ( jh (by simp)) (.inl rfl) ?_
   (repeat ((repeat1' (first | simp -implicitDefEqProofs -dsimp only [go_sem] | simp -dsimp (disch := omega) only [wrap_i64])); repeat (with_reducible refine ah ?_)))
   (first | refine ak.at (hhe) ⟨aq, aq, trivial⟩ ?_ | refine aj.at (hhe) ⟨aq, aq, trivial⟩ ?_)
   (repeat ((repeat1' (first | simp -implicitDefEqProofs -dsimp only [go_sem, hk1] | simp -dsimp (disch := omega) only [wrap_i64])); repeat (with_reducible refine ah ?_)))
   (first | refine ak.at (hto) ⟨aq, trivial⟩ ?_ | refine aj.at (hto) ⟨aq, trivial⟩ ?_)
   (repeat ((repeat1' (first | simp -implicitDefEqProofs -dsimp only [go_sem, ai.o] | simp -dsimp (disch := omega) only [wrap_i64])); repeat (with_reducible refine ah ?_)))
   (first | refine ak.at (ci) ⟨aq, aq, trivial⟩ ?_ | refine aj.at (ci) ⟨aq, aq, trivial⟩ ?_)
   (repeat ((repeat1' (first | simp -implicitDefEqProofs -dsimp only [go_sem, ai.o] | simp -dsimp (disch := omega) only [wrap_i64])); repeat (with_reducible refine ah ?_)))
   (first | refine ak.at (he) ⟨aq, aq, trivial⟩ ?_ | refine aj.at (he) ⟨aq, aq, trivial⟩ ?_)
   (repeat ((repeat1' (first | simp -implicitDefEqProofs -dsimp only [go_sem] | simp -dsimp (disch := omega) only [wrap_i64])); repeat (with_reducible refine ah ?_)))
   (first | refine ak.at (hhe) ⟨aq, aq, trivial⟩ ?_ | refine aj.at (hhe) ⟨aq, aq, trivial⟩ ?_)
   (repeat ((repeat1' (first | simp -implicitDefEqProofs -dsimp only [go_sem, hk1] | simp -dsimp (disch := omega) only [wrap_i64])); repeat (with_reducible refine ah ?_)))
   exact al.ax rfl (by rfl)
end Go.Proofs
end
