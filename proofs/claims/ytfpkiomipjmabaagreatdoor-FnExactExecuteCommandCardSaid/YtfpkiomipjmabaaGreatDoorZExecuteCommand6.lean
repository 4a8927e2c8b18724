/-
  A part of the proof: texts put together by a program of the prover. Conditions: none.
-/
import Derived.Test.YtfpkiomipjmabaaGreatDoorZExecuteCommand5
import Derived.Lib.AppendIntMem
set_option linter.unusedSimpArgs false
set_option linter.unusedVariables false
section
set_option maxRecDepth 100000
namespace Go.Proofs
open Go.Lv
theorem ak4 {w : World} {av : Nat → Prop} (h : GL w av) : Lib.TabIs Tryz.prog w "internal/strconv.uint64pow10" .u64 Lib.pow10Tab := by
 obtain ⟨_, T, fr, h2⟩ := h.1 _ (List.mem_singleton.2 rfl)
 have hg : Tryz.prog.globalNamed "internal/strconv.uint64pow10" = some 5 := by kernel_rfl
 unfold Lib.TabIs World.var?
 rw [hg, Option.bind_some, h2]
 rfl
theorem ai4 {W : World} (h : Lib.TabIs Tryz.prog W "internal/strconv.uint64pow10" .u64 Lib.pow10Tab) (hv : ∀ p ∈ adi, ¬ False ∧ ∃ C T fr v, W.heap[p.1]? = some (.cells C T fr) ∧ C[0]? = some v ∧ auz p.2 v) : GL W (fun _ => False) := by
 refine ⟨fun p hp => ?_, hv⟩
 have hp' := List.mem_singleton.1 hp
 subst hp'
 have hg : Tryz.prog.globalNamed "internal/strconv.uint64pow10" = some 5 := by kernel_rfl
 unfold Lib.TabIs World.var? at h
 rw [hg, Option.bind_some] at h
 dsimp only at h ⊢
 split at h
 · rename_i cs T fr hc
   refine ⟨fun h => h, T, fr, ?_⟩
   rw [hc]
   simp only [Option.some.injEq] at h
   subst h
   rfl
 · cases h
theorem mo (n : Int) (hn : gz n) : Ctr Tryz.prog 134 [.int .i64 n] [] (.str (num n)) [] := by
 refine ⟨Tryz.axq, fun w vs m av hH hav hgl hsz ha => ?_⟩
 obtain ⟨v, rfl⟩ : ∃ v, vs = #[v] := by
  match vs, hsz with
  | ⟨[v]⟩, _ => exact ⟨v, rfl⟩
 have h0 := ha 0 (by simp)
 simp only [List.getElem_cons_zero] at h0
 have hv : v = .int .i64 n := by
  have := q8 h0
  simpa using this
 subst hv
 refine (Tryz.strconv_Itoa n hn.1 hn.2 w (ak4 hgl)).mono ?_
 rintro e w' ⟨rfl, k, os, rfl⟩
 refine ⟨_, m, rfl, ?_, ⟨fun i j ci cj h => by simp at h, fun id cs h => by simp at h, fun id cs h => by simp at h⟩, .str _, fun id cs h => by simp at h⟩
 have hb : ∀ g, g < w.heap.size → (Sort.grow (w.drewN k) os).heap[g]? = w.heap[g]? := fun g hg => Lib.heap_grow_old w k os g hg
 exact ⟨rfl, rfl, rfl, Lib.size_grow w k os, fun g hg _ => hb g hg, fun g hg => Nat.le_of_eq (fy (hb g hg)).symm⟩
theorem qh (n : Int) (hn : gz n) : Ctr Tryz.prog 81 [.int .i64 n] [] (.str (num n)) [] := by
 refine Ctr.intro Tryz.mixed Tryz.func81 rfl Tryz.a14 ?_
 simp -implicitDefEqProofs -dsimp only [go_sem, Tryz.ntmps81, Tryz.results81]
 (first | refine al.at (mo n hn) ⟨leA, trivial⟩ ?_ | refine ak.at (mo n hn) ⟨leA, trivial⟩ ?_)
 simp -implicitDefEqProofs -dsimp only [go_sem]
 exact aj.au rfl (by rfl)
theorem aed : ∀ (k u : Nat), u < k → u ≤ 9223372036854775807 → Ctr Tryz.prog 82 [.int .i64 u] [] (.str (num u)) [] := by
 intro k
 induction k with
 | zero => intro u h; omega
 | succ k ih =>
  intro u hu hb
  refine Ctr.intro Tryz.mixed Tryz.func82 rfl Tryz.at0 ?_
  simp -implicitDefEqProofs -dsimp only [go_sem, Tryz.ntmps82, Tryz.results82]
  refine bc.split (fun h => absurd h (by simp)) (fun h => ?_)
  simp -implicitDefEqProofs -dsimp only [go_sem, h]
  refine bc.split (fun h2 => ?_) (fun h2 => ?_)
  · have hlt : u < 10 := by simp at h2; omega
    (repeat ((repeat1' (first | simp -implicitDefEqProofs -dsimp only [go_sem, h2] | simp -dsimp (disch := omega) only [wrap_i64])); repeat (with_reducible refine ah ?_)))
    have e : ((u : Int) + 1).toNat = u + 1 := by omega
    have e2 : ((#[48, 49, 50, 51, 52, 53, 54, 55, 56, 57] : Array UInt8).size : Int) = 10 := rfl
    rw [e, e2]
    refine ⟨⟨by omega, by omega, by omega⟩, aj.au ?_ (by rfl)⟩
    rw [afu hlt, digits]
  · have hge : ¬ u < 10 := by simp at h2; omega
    have t1 : Int.tdiv (u : Int) 10 = ((u / 10 : Nat) : Int) := rfl
    have t2 : Int.tmod (u : Int) 10 = ((u % 10 : Nat) : Int) := rfl
    (repeat ((repeat1' (first | simp -implicitDefEqProofs -dsimp only [go_sem, h2, t1, t2] | simp -dsimp (disch := omega) only [wrap_i64])); repeat (with_reducible refine ah ?_)))
    (have ct := ih (u / 10) (by omega) (by omega); (first | refine al.at ct ⟨leA, trivial⟩ ?_ | refine ak.at ct ⟨leA, trivial⟩ ?_); clear ct)
    have e : (((u % 10 : Nat) : Int) + 1).toNat = u % 10 + 1 := by omega
    have e2 : ((#[48, 49, 50, 51, 52, 53, 54, 55, 56, 57] : Array UInt8).size : Int) = 10 := rfl
    have hs := j0 (n := ((u / 10 : Nat) : Int)) (by omega) (by omega)
    have hd : ({ data := #[48, 49, 50, 51, 52, 53, 54, 55, 56, 57] } : ByteArray).extract (u % 10) (u % 10 + 1) = ⟨#[UInt8.ofNat (48 + u % 10)]⟩ := r3 (u % 10) (by omega)
    (repeat ((repeat1' (first | simp -implicitDefEqProofs -dsimp only [go_sem, e, e2, hd, bm] | simp -dsimp (disch := omega) only [wrap_i64])); repeat (with_reducible refine ah ?_)))
    refine ⟨by simp only [List.size_toArray, List.length_cons, List.length_nil]; omega, aj.au ?_ (by rfl)⟩
    rw [aau hge, r3 (u % 10) (by omega)]
theorem fh (n : Int) (h0 : -9223372036854775807 ≤ n) (h1 : n ≤ 9223372036854775807) : Ctr Tryz.prog 82 [.int .i64 n] [] (.str (num n)) [] := by
 rcases Int.lt_or_le n 0 with hn | hn
 · obtain ⟨u, rfl⟩ : ∃ u : Nat, n = -(u : Int) := ⟨n.natAbs, by omega⟩
   refine Ctr.intro Tryz.mixed Tryz.func82 rfl Tryz.at0 ?_
   simp -implicitDefEqProofs -dsimp only [go_sem, Tryz.ntmps82, Tryz.results82]
   refine bc.split (fun h => ?_) (fun h => absurd h (by simp; omega))
   have e : IntKind.i64.wrap (0 - -(u : Int)) = (u : Int) := by rw [wrap_i64 (by omega) (by omega)]; omega
   simp -implicitDefEqProofs -dsimp only [go_sem, h, e]
   (have ct := aed (u + 1) u (by omega) (by omega); (first | refine al.at ct ⟨leA, trivial⟩ ?_ | refine ak.at ct ⟨leA, trivial⟩ ?_); clear ct)
   have hs := j0 (n := (u : Int)) (by omega) (by omega)
   simp -implicitDefEqProofs -dsimp only [go_sem, bm]
   refine ⟨by simp; omega, aj.au ?_ (by rfl)⟩
   rw [aqm (by omega)]
 · obtain ⟨u, rfl⟩ : ∃ u : Nat, n = u := ⟨n.toNat, by omega⟩
   exact aed (u + 1) u (by omega) (by omega)
end Go.Proofs
end
section
set_option maxRecDepth 100000
set_option maxHeartbeats 1000000
namespace Go.Proofs
open Go.Lv
theorem acd (p : UInt8 → Bool) (a b : ByteArray) : fi p (a ++ b) = (fi p a && fi p b) := by
 simp [fi, ByteArray.data_append]
theorem ad7 : ∀ (n u : Nat), u < n → fi (fun b => !(b == 35)) (num u) = true
 | 0, u, h => by omega
 | n + 1, u, h => by
  have one : ∀ d, d < 10 → fi (fun b => !(b == 35)) (digits.extract d (d + 1)) = true := by
   intro d hd
   rw [r3 d hd]
   match d, hd with
   | 0, _ => decide
   | 1, _ => decide
   | 2, _ => decide
   | 3, _ => decide
   | 4, _ => decide
   | 5, _ => decide
   | 6, _ => decide
   | 7, _ => decide
   | 8, _ => decide
   | 9, _ => decide
  by_cases c : u < 10
  · rw [afu c]; exact one u c
  · rw [aau c, acd, ad7 n (u / 10) (by omega), one (u % 10) (by omega)]; rfl
def ab5 (h : Int) (b : UInt8) : Int := (41 * h + b.toNat + 1) % 999979
def pb (s : ByteArray) (i : Nat) : Int := (s.data.toList.take i).foldl ab5 7
def ckS (s : ByteArray) : Int := pb s s.size
theorem yr {s : ByteArray} {i : Nat} (h : i < s.size) : pb s (i + 1) = ab5 (pb s i) (s[i]'h) := by
 have hl : i < s.data.toList.length := h
 rw [pb, List.take_succ_eq_append_getElem hl, List.foldl_append, ← lu s h]; rfl
theorem aex (s : ByteArray) : ∀ i, i ≤ s.size → 0 ≤ pb s i ∧ pb s i < 999979
 | 0, _ => by simp [pb]
 | i + 1, h => by
  rw [yr (by omega : i < s.size), ab5]
  omega
theorem ajk (s : ByteArray) : 0 ≤ ckS s ∧ ckS s < 999979 := aex s s.size (Nat.le_refl _)
theorem aj4 {h : Int} {b : UInt8} (h0 : 0 ≤ h) : (41 * h + b.toNat + 1).tmod 999979 = ab5 h b := by
 rw [ab5, Int.tmod_eq_emod_of_nonneg (by omega)]
theorem ahd (s : ByteArray) (hs : s.size ≤ 4000) : Ctr Tryz.prog 252 [.str s] [] (.tup [.int .i64 (ckS s), .bool true]) [] := by
 refine Ctr.intro Tryz.mixed Tryz.func252 rfl Tryz.au3 ?_
 simp -implicitDefEqProofs -dsimp only [go_sem, Tryz.ntmps252, Tryz.results252]
 have c0 : decide ((4000 : Int) < s.size) = false := decide_eq_false (by omega)
 simp -implicitDefEqProofs -dsimp only [go_sem, c0]
 refine de.intro (fun i : Nat => i ≤ s.size) (fun i => ⟨[.str s, .undef, .undef, .undef, .int .i64 (pb s i), .undef, .undef, .undef, .undef, .undef, .int .i64 s.size, .int .i64 i, .undef, .undef, .undef, .undef, .undef, .undef, .undef, .undef, .undef, .undef, .undef, .undef, .undef], [], 0⟩) (fun i => s.size - i) 0 (Nat.zero_le _) ?_ (fun i hi => ?_)
 · refine bt.cut (0) (by simp) (by simp) ?_ ?_
   · simp [LeC, LeV, ren, br, pb]
   · rfl
 simp -implicitDefEqProofs -dsimp only [go_sem]
 refine bc.split (fun h1 => ?_) (fun h1 => ?_)
 · simp -implicitDefEqProofs -dsimp only [go_sem, h1]
   have hi' : i < s.size := by simpa using h1
   have hu := UInt8.toNat_lt (s[i]'hi')
   have hbd := aex s i hi
   have hw1 : IntKind.i64.wrap ((s[i]'hi').toNat : Int) = ((s[i]'hi').toNat : Int) := wrap_i64 (by omega) (by omega)
   have hw2 : IntKind.i64.wrap (41 * pb s i) = 41 * pb s i := wrap_i64 (by omega) (by omega)
   have hw3 : IntKind.i64.wrap (41 * pb s i + ((s[i]'hi').toNat : Int)) = 41 * pb s i + ((s[i]'hi').toNat : Int) := wrap_i64 (by omega) (by omega)
   have hw4 : IntKind.i64.wrap (41 * pb s i + ((s[i]'hi').toNat : Int) + 1) = 41 * pb s i + ((s[i]'hi').toNat : Int) + 1 := wrap_i64 (by omega) (by omega)
   have hq := aj4 (b := s[i]'hi') hbd.1
   refine ⟨⟨by omega, hi'⟩, ?_⟩
   try (repeat1' (first | simp -implicitDefEqProofs -dsimp only [go_sem, hw1, hw2, hw3, hw4, hq] | simp -dsimp (disch := omega) only [wrap_i64]))
   repeat (with_reducible refine And.intro ?_ ?_; focus (first | omega | with_reducible rfl | (show bo _ = true; kernel_rfl) | (simp only [aw, a8, List.length_append, List.length_cons, List.length_nil, List.all_append, List.all_cons, List.all_nil, bp, Nat.mul_one, Nat.one_mul, Bool.and_self]; first | done | omega) | (simp only [ByteArray.size_append, bm, List.size_toArray, List.length_cons, List.length_nil]; omega)))
   refine ⟨i + 1, hi', ?_, by omega⟩
   refine bt.cut (0) (by simp) (by simp) ?_ ?_
   · rw [yr hi']
     try rw [wrap_i64 (by omega) (by omega)]
     simp [LeC, LeV, ren, br]
   · rfl
 · simp -implicitDefEqProofs -dsimp only [go_sem, h1]
   have hi' : i = s.size := by simp at h1; omega
   subst hi'
   exact aj.au rfl (by rfl)
theorem agt (s : ByteArray) (hs : s.size ≤ 4000) : Ctr Tryz.prog 237 [.str s] [] (.int .i64 (ckS s)) [] := by
 refine Ctr.intro Tryz.mixed Tryz.func237 rfl Tryz.axy ?_
 simp -implicitDefEqProofs -dsimp only [go_sem, Tryz.ntmps237, Tryz.results237]
 refine de.intro (fun i : Nat => i ≤ s.size) (fun i => ⟨[.str s, .undef, .undef, .int .i64 (pb s i), .int .i64 i, .undef, .undef, .undef, .undef, .undef, .undef, .undef, .undef, .undef, .undef, .undef, .undef, .undef, .undef, .undef, .undef], [], 0⟩) (fun i => s.size - i) 0 (Nat.zero_le _) ?_ (fun i hi => ?_)
 · refine bt.cut (0) (by simp) (by simp) ?_ ?_
   · simp [LeC, LeV, ren, br, pb]
   · rfl
 simp -implicitDefEqProofs -dsimp only [go_sem]
 refine bc.split (fun h1 => ?_) (fun h1 => ?_)
 · simp -implicitDefEqProofs -dsimp only [go_sem, h1]
   have hi' : i < s.size := by simpa using h1
   have hu := UInt8.toNat_lt (s[i]'hi')
   have hbd := aex s i hi
   have hw1 : IntKind.i64.wrap ((s[i]'hi').toNat : Int) = ((s[i]'hi').toNat : Int) := wrap_i64 (by omega) (by omega)
   have hw2 : IntKind.i64.wrap (41 * pb s i) = 41 * pb s i := wrap_i64 (by omega) (by omega)
   have hw3 : IntKind.i64.wrap (41 * pb s i + ((s[i]'hi').toNat : Int)) = 41 * pb s i + ((s[i]'hi').toNat : Int) := wrap_i64 (by omega) (by omega)
   have hw4 : IntKind.i64.wrap (41 * pb s i + ((s[i]'hi').toNat : Int) + 1) = 41 * pb s i + ((s[i]'hi').toNat : Int) + 1 := wrap_i64 (by omega) (by omega)
   have hq := aj4 (b := s[i]'hi') hbd.1
   refine ⟨⟨by omega, hi'⟩, ?_⟩
   try (repeat1' (first | simp -implicitDefEqProofs -dsimp only [go_sem, hw1, hw2, hw3, hw4, hq] | simp -dsimp (disch := omega) only [wrap_i64]))
   repeat (with_reducible refine And.intro ?_ ?_; focus (first | omega | with_reducible rfl | (show bo _ = true; kernel_rfl) | (simp only [aw, a8, List.length_append, List.length_cons, List.length_nil, List.all_append, List.all_cons, List.all_nil, bp, Nat.mul_one, Nat.one_mul, Bool.and_self]; first | done | omega) | (simp only [ByteArray.size_append, bm, List.size_toArray, List.length_cons, List.length_nil]; omega)))
   refine ⟨i + 1, hi', ?_, by omega⟩
   refine bt.cut (0) (by simp) (by simp) ?_ ?_
   · rw [yr hi']
     try rw [wrap_i64 (by omega) (by omega)]
     simp [LeC, LeV, ren, br]
   · rfl
 · simp -implicitDefEqProofs -dsimp only [go_sem, h1]
   have hi' : i = s.size := by simp at h1; omega
   subst hi'
   exact aj.au rfl (by rfl)
def nt (s : ByteArray) : ByteArray := (s ++ ⟨#[35]⟩) ++ num (ckS s)
theorem aa0 (s : ByteArray) : (num (ckS s)).size ≤ 21 := by
 have := ajk s
 exact j0 (by omega) (by omega)
theorem iv (s : ByteArray) : (nt s).size ≤ s.size + 22 := by
 have := aa0 s
 unfold nt
 simp only [ByteArray.size_append, bm, List.size_toArray, List.length_cons, List.length_nil]; omega
theorem ak5 (s : ByteArray) (hs : s.size ≤ 4000) : Ctr Tryz.prog 197 [.str s] [] (.str (nt s)) [] := by
 have hc := ajk s
 have hz := aa0 s
 refine Ctr.intro Tryz.mixed Tryz.func197 rfl Tryz.aww ?_
 simp -implicitDefEqProofs -dsimp only [go_sem, Tryz.ntmps197, Tryz.results197]
 repeat (first | ((first | refine al.at (agt s hs) ⟨leA, trivial⟩ ?_ | refine ak.at (agt s hs) ⟨leA, trivial⟩ ?_); simp -implicitDefEqProofs -dsimp only [go_sem]) | ((have ct := fh (ckS s) (by omega) (by omega); (first | refine al.at ct ⟨leA, trivial⟩ ?_ | refine ak.at ct ⟨leA, trivial⟩ ?_); clear ct); simp -implicitDefEqProofs -dsimp only [go_sem]) | (with_reducible refine And.intro (by first | omega | (show bo _ = true; kernel_rfl) | (simp only [ByteArray.size_append, bm, List.size_toArray, List.length_cons, List.length_nil]; omega)) ?_; try (repeat1' (first | simp -implicitDefEqProofs -dsimp only [go_sem] | simp -dsimp (disch := omega) only [wrap_i64]))))
 exact aj.au rfl (by rfl)
theorem ya (s : ByteArray) (hs : s.size ≤ 1000) (hp : fi (fun b => !(b == 35)) s = true) : Ctr Tryz.prog 209 [.str s] [] (.tup [.str (nt s), .bool true]) [] := by
 have hc := ajk s
 have hz := aa0 s
 have hss := iv s
 have hno : decide (0 ≤ Lib.indexByte s.data.toList 35) = false := by
  rw [qw]
  show (!(fi (fun b => !(b == 35)) s)) = false
  rw [hp]; rfl
 have hlong : decide ((4000 : Int) < ((nt s).size : Int)) = false := decide_eq_false (by omega)
 refine Ctr.intro Tryz.mixed Tryz.func209 rfl Tryz.au1 ?_
 simp -implicitDefEqProofs -dsimp only [go_sem, Tryz.ntmps209, Tryz.results209]
 repeat (first | ((have ct := ahd s (by omega); (first | refine al.at ct ⟨leA, trivial⟩ ?_ | refine ak.at ct ⟨leA, trivial⟩ ?_); clear ct); simp -implicitDefEqProofs -dsimp only [go_sem]) | ((have ct := mo (ckS s) ⟨by omega, by omega⟩; (first | refine al.at ct ⟨leA, trivial⟩ ?_ | refine ak.at ct ⟨leA, trivial⟩ ?_); clear ct); simp -implicitDefEqProofs -dsimp only [go_sem]) | (with_reducible refine And.intro (by first | omega | (show bo _ = true; kernel_rfl) | (simp only [ByteArray.size_append, bm, List.size_toArray, List.length_cons, List.length_nil]; omega)) ?_; try (repeat1' (first | simp -implicitDefEqProofs -dsimp only [go_sem] | simp -dsimp (disch := omega) only [wrap_i64]))))
 (have ct := uj s 35; (first | refine al.at ct ⟨leA, leA, trivial⟩ ?_ | refine ak.at ct ⟨leA, leA, trivial⟩ ?_); clear ct)
 have e : (s ++ (⟨#[35]⟩ : ByteArray)) ++ num (ckS s) = nt s := rfl
 rw [e]
 simp -implicitDefEqProofs -dsimp only [go_sem, hno, hlong]
 exact aj.au rfl (by rfl)
def di (k : Int) (e : az) : ByteArray := (((num k ++ ⟨#[32]⟩) ++ e.Command) ++ ⟨#[64]⟩) ++ e.Reply
def gm (k : Int) (e : az) : ByteArray := nt (di k e) ++ ⟨#[10]⟩
theorem xe {e : az} (h : ix e = true) : e.Command.size ≤ 160 ∧ e.Reply.size ≤ 200 ∧ fi (fun b => cw b && !(b == 64)) e.Command = true ∧ fi cw e.Reply = true ∧ 1 ≤ e.Command.size := by
 simp [ix] at h
 exact ⟨h.1.1.2, h.2.1, h.1.2, h.2.2, h.1.1.1⟩
theorem gr {k : Int} {e : az} (hk : 0 ≤ k ∧ k ≤ 59) (h : ix e = true) : (di k e).size ≤ 400 := by
 have := xe h
 have := j0 (n := k) (by omega) (by omega)
 unfold di
 simp only [ByteArray.size_append, bm, List.size_toArray, List.length_cons, List.length_nil]; omega
theorem y9 {p q : UInt8 → Bool} {s : ByteArray} (h : fi p s = true) (hpq : ∀ b, p b = true → q b = true) : fi q s = true :=
 List.all_eq_true.2 fun x hx => hpq x (List.all_eq_true.1 h x hx)
theorem vo {k : Int} {e : az} (hk : 0 ≤ k ∧ k ≤ 59) (h : ix e = true) : fi (fun b => !(b == 35)) (di k e) = true := by
 obtain ⟨_, _, h3, h4, _⟩ := xe h
 obtain ⟨u, rfl⟩ := Int.eq_ofNat_of_zero_le hk.1
 have n1 : fi (fun b => !(b == 35)) (num (u : Int)) = true := ad7 (u + 1) u (by omega)
 have c1 : fi (fun b => !(b == 35)) e.Command = true := y9 h3 (fun b hb => by simp [cw] at hb ⊢; exact hb.1.2)
 have c2 : fi (fun b => !(b == 35)) e.Reply = true := y9 h4 (fun b hb => by simp [cw] at hb ⊢; exact hb.2)
 unfold di
 simp only [acd, n1, c1, c2, Bool.true_and, Bool.and_true]
 rfl
def ajb (k : Int) (e : az) : List V := if ed k 0 59 = true ∧ ix e = true then [.str (gm k e), .bool true] else [.str ⟨#[]⟩, .bool false]
theorem rl (k : Int) (e : az) (hc : e.Command.size ≤ 281474976710656) (hr : e.Reply.size ≤ 281474976710656) : Ctr Tryz.prog 151 [.int .i64 k, e.v] [] (.tup (ajb k e)) [] := by
 refine Ctr.intro Tryz.mixed Tryz.func151 rfl Tryz.ayu ?_
 simp -implicitDefEqProofs -dsimp only [go_sem, Tryz.ntmps151, Tryz.results151]
 simp -implicitDefEqProofs -dsimp only [go_sem, az.v]
 (first | refine al.at (jt k 0 59) ⟨leA, leA, leA, trivial⟩ ?_ | refine ak.at (jt k 0 59) ⟨leA, leA, leA, trivial⟩ ?_)
 simp -implicitDefEqProofs -dsimp only [go_sem]
 refine ax.ch (fun g1 => ?_) (fun g1 => ?_) <;> simp -implicitDefEqProofs -dsimp only [go_sem, g1]
 rotate_left
 · exact aj.au (by rw [ajb, if_neg (by simp at g1; simp [g1])]) (by rfl)
 (have ct := ln e hc hr; (first | refine al.at ct ⟨leA, trivial⟩ ?_ | refine ak.at ct ⟨leA, trivial⟩ ?_); clear ct)
 simp -implicitDefEqProofs -dsimp only [go_sem]
 refine bc.split (fun g2 => ?_) (fun g2 => ?_) <;> simp -implicitDefEqProofs -dsimp only [go_sem, g2]
 · exact aj.au (by rw [ajb, if_neg (by simp at g2; simp [g2])]) (by rfl)
 have hk : ed k 0 59 = true := by simpa using g1
 have he : ix e = true := by simpa using g2
 have hk' := fe.1 hk
 have z1 := j0 (n := k) (by omega) (by omega)
 have z2 := xe he
 have z3 := gr hk' he
 have z4 := iv (di k e)
 have e1 : (((num k ++ (⟨#[32]⟩ : ByteArray)) ++ e.Command) ++ (⟨#[64]⟩ : ByteArray)) ++ e.Reply = di k e := rfl
 repeat (first | ((have ct := mo k ⟨by omega, by omega⟩; (first | refine al.at ct ⟨leA, trivial⟩ ?_ | refine ak.at ct ⟨leA, trivial⟩ ?_); clear ct); simp -implicitDefEqProofs -dsimp only [go_sem]) | (with_reducible refine And.intro (by first | omega | (show bo _ = true; kernel_rfl) | (simp only [ByteArray.size_append, bm, List.size_toArray, List.length_cons, List.length_nil]; omega)) ?_; try (repeat1' (first | simp -implicitDefEqProofs -dsimp only [go_sem] | simp -dsimp (disch := omega) only [wrap_i64]))))
 rw [e1]
 repeat (first | ((have ct := ya (di k e) (by omega) (vo hk' he); (first | refine al.at ct ⟨leA, trivial⟩ ?_ | refine ak.at ct ⟨leA, trivial⟩ ?_); clear ct); simp -implicitDefEqProofs -dsimp only [go_sem]) | (with_reducible refine And.intro (by first | omega | (show bo _ = true; kernel_rfl) | (simp only [ByteArray.size_append, bm, List.size_toArray, List.length_cons, List.length_nil]; omega)) ?_; try (repeat1' (first | simp -implicitDefEqProofs -dsimp only [go_sem] | simp -dsimp (disch := omega) only [wrap_i64]))))
 exact aj.au (by rw [ajb, if_pos ⟨hk, he⟩]; rfl) (by rfl)
theorem abo (k : Int) (e : az) (hk : 0 ≤ k ∧ k ≤ 59) (he : ix e = true) : Ctr Tryz.prog 138 [.int .i64 k, e.v] [] (.str (gm k e)) [] := by
 have z1 := j0 (n := k) (by omega) (by omega)
 have z2 := xe he
 have z3 := gr hk he
 have z4 := iv (di k e)
 have e1 : (((num k ++ (⟨#[32]⟩ : ByteArray)) ++ e.Command) ++ (⟨#[64]⟩ : ByteArray)) ++ e.Reply = di k e := rfl
 refine Ctr.intro Tryz.mixed Tryz.func138 rfl Tryz.aw6 ?_
 simp -implicitDefEqProofs -dsimp only [go_sem, Tryz.ntmps138, Tryz.results138]
 simp -implicitDefEqProofs -dsimp only [go_sem, az.v]
 repeat (first | ((have ct := fh k (by omega) (by omega); (first | refine al.at ct ⟨leA, trivial⟩ ?_ | refine ak.at ct ⟨leA, trivial⟩ ?_); clear ct); simp -implicitDefEqProofs -dsimp only [go_sem]) | (with_reducible refine And.intro (by first | omega | (show bo _ = true; kernel_rfl) | (simp only [ByteArray.size_append, bm, List.size_toArray, List.length_cons, List.length_nil]; omega)) ?_; try (repeat1' (first | simp -implicitDefEqProofs -dsimp only [go_sem] | simp -dsimp (disch := omega) only [wrap_i64]))))
 rw [e1]
 repeat (first | ((have ct := ak5 (di k e) (by omega); (first | refine al.at ct ⟨leA, trivial⟩ ?_ | refine ak.at ct ⟨leA, trivial⟩ ?_); clear ct); simp -implicitDefEqProofs -dsimp only [go_sem]) | (with_reducible refine And.intro (by first | omega | (show bo _ = true; kernel_rfl) | (simp only [ByteArray.size_append, bm, List.size_toArray, List.length_cons, List.length_nil]; omega)) ?_; try (repeat1' (first | simp -implicitDefEqProofs -dsimp only [go_sem] | simp -dsimp (disch := omega) only [wrap_i64]))))
 exact aj.au rfl (by rfl)
end Go.Proofs
end
section
set_option maxRecDepth 100000
namespace Go.Proofs
open Go.Lv
def StringS.cs (x : ByteArray) : List V := [.str x]
instance : pn StringS.cs 1 := ⟨fun _ => rfl, fun _ d => by cases d <;> rfl, fun _ => rfl, fun _ => rfl⟩
theorem StringS.csl (a : ByteArray) : (StringS.cs a).length = 1 := rfl
theorem StringS.csp (a : ByteArray) : (StringS.cs a).all (cb 2) = true := rfl
abbrev StringS.ok (x : ByteArray) : Prop := agp x
abbrev StringS.sl (L : List ByteArray) : V := .sl L.length 1 (Go.Lv.rows StringS.cs L)
abbrev StringS.zs : List V := [.str ByteArray.empty]
abbrev StringS.v (x : ByteArray) : V := .str x
end Go.Proofs
end
section
set_option maxRecDepth 100000
set_option maxHeartbeats 1000000
namespace Go.Proofs
open Go.Lv
theorem ra {a b : ByteArray} (h : a.data.toList = b.data.toList) : a = b := by
 apply ByteArray.ext
 exact Array.toList_inj.1 h
theorem lk (a b : ByteArray) : (a ++ b).data.toList = a.data.toList ++ b.data.toList := by simp [ByteArray.data_append]
theorem dn (s : ByteArray) (a b : Nat) : (s.extract a b).data.toList = (s.data.toList.take b).drop a := by
 rw [ByteArray.data_extract, Array.toList_extract, List.extract_eq_take_drop, List.drop_take]
def idx (c : UInt8) (s : ByteArray) : Int := Lib.indexByte s.data.toList c
def fnd (c : UInt8) (s : ByteArray) : Bool := decide (0 ≤ idx c s)
def bef (c : UInt8) (s : ByteArray) : ByteArray := if 0 ≤ idx c s then s.extract 0 (idx c s).toNat else s
def aft (c : UInt8) (s : ByteArray) : ByteArray := if 0 ≤ idx c s then s.extract ((idx c s).toNat + 1) s.size else ⟨#[]⟩
theorem ai1 {c : UInt8} : ∀ {x : List UInt8} (y : List UInt8), (x.all fun b => !(b == c)) = true → Lib.indexByte (x ++ c :: y) c = x.length
 | [], y, _ => by simp [Lib.indexByte]
 | a :: x, y, h => by
  simp only [List.all_cons, Bool.and_eq_true] at h
  have hf : (a == c) = false := by simpa using h.1
  rw [List.cons_append, Lib.indexByte, hf, ai1 y h.2]
  have : ((x.length : Int) == -1) = false := by simp
  simp [this]
theorem ajx {c : UInt8} : ∀ {x : List UInt8}, (x.all fun b => !(b == c)) = true → Lib.indexByte x c = -1
 | [], _ => rfl
 | a :: x, h => by
  simp only [List.all_cons, Bool.and_eq_true] at h
  have hf : (a == c) = false := by simpa using h.1
  rw [Lib.indexByte, hf, ajx h.2]
  rfl
theorem akh {c : UInt8} : ∀ {l : List UInt8}, 0 ≤ Lib.indexByte l c → ∃ x y, l = x ++ c :: y ∧ (x.all fun b => !(b == c)) = true
 | [], h => by simp [Lib.indexByte] at h
 | a :: l, h => by
  by_cases e : a = c
  · exact ⟨[], l, by simp [e], rfl⟩
  · have hf : (a == c) = false := by simpa using e
    rw [Lib.indexByte, hf] at h
    by_cases e2 : Lib.indexByte l c = -1
    · simp [e2] at h
    · have hg := Lib.indexByte_ge l c
      obtain ⟨x, y, h1, h2⟩ := akh (l := l) (c := c) (by omega)
      refine ⟨a :: x, y, by rw [h1]; rfl, ?_⟩
      rw [List.all_cons, hf, h2]; rfl
def noB (c : UInt8) (s : ByteArray) : Bool := fi (fun b => !(b == c)) s
theorem qu {c : UInt8} {x y : ByteArray} (h : noB c x = true) : idx c (x ++ (⟨#[c]⟩ ++ y)) = x.size ∧ bef c (x ++ (⟨#[c]⟩ ++ y)) = x ∧ aft c (x ++ (⟨#[c]⟩ ++ y)) = y ∧ fnd c (x ++ (⟨#[c]⟩ ++ y)) = true := by
 have e : (x ++ (⟨#[c]⟩ ++ y)).data.toList = x.data.toList ++ c :: y.data.toList := by rw [lk, lk]; rfl
 have hi : idx c (x ++ (⟨#[c]⟩ ++ y)) = x.size := by
  rw [idx, e, ai1 _ h, ew]
 have hp : (0 : Int) ≤ x.size := by omega
 refine ⟨hi, ?_, ?_, ?_⟩
 · rw [bef, hi, if_pos hp]
   apply ra
   rw [dn, e, Int.toNat_natCast, List.drop_zero]
   exact List.take_left' (ew x)
 · rw [aft, hi, if_pos hp]
   apply ra
   have hl : (x ++ (⟨#[c]⟩ ++ y)).size = (x ++ (⟨#[c]⟩ ++ y)).data.toList.length := rfl
   rw [dn, Int.toNat_natCast, hl, List.take_length, e]
   have e2 : x.data.toList ++ c :: y.data.toList = (x.data.toList ++ [c]) ++ y.data.toList := by simp
   rw [e2]
   exact List.drop_left' (by rw [List.length_append, ew]; rfl)
 · rw [fnd, hi]; exact decide_eq_true hp
theorem aot {c : UInt8} {x : ByteArray} (h : noB c x = true) : idx c x = -1 ∧ bef c x = x ∧ aft c x = ⟨#[]⟩ ∧ fnd c x = false := by
 have hi : idx c x = -1 := ajx h
 refine ⟨hi, ?_, ?_, ?_⟩
 · rw [bef, hi]; rfl
 · rw [aft, hi]; rfl
 · rw [fnd, hi]; rfl
theorem xc {c : UInt8} {s : ByteArray} (h : fnd c s = true) : ∃ x y, s = x ++ (⟨#[c]⟩ ++ y) ∧ noB c x = true := by
 obtain ⟨x, y, h1, h2⟩ := akh (of_decide_eq_true h)
 refine ⟨⟨x.toArray⟩, ⟨y.toArray⟩, ?_, ?_⟩
 · apply ra
   rw [lk, lk, h1]
   simp
 · unfold noB fi; simpa using h2
theorem am1 (c : UInt8) (s : ByteArray) : -1 ≤ idx c s ∧ idx c s < s.size := by
 refine ⟨Lib.indexByte_ge _ _, ?_⟩
 by_cases h : 0 ≤ idx c s
 · obtain ⟨x, y, e, hx⟩ := xc (c := c) (s := s) (decide_eq_true h)
   rw [e, (qu hx).1]
   simp only [ByteArray.size_append]
   have : (⟨#[c]⟩ : ByteArray).size = 1 := rfl
   omega
 · omega
theorem ri (c : UInt8) (s : ByteArray) : (bef c s).size ≤ s.size := by
 have := am1 c s
 unfold bef; split
 · rw [ByteArray.size_extract]; omega
 · exact Nat.le_refl _
theorem ahi (c : UInt8) (s : ByteArray) : (aft c s).size ≤ s.size := by
 unfold aft; split
 · rw [ByteArray.size_extract]; omega
 · exact Nat.zero_le _
theorem zr (s : ByteArray) (c : UInt8) : Ctr Tryz.prog 184 [.str s, .str ⟨#[c]⟩] [] (.int .i64 (idx c s)) [] := by
 refine ⟨Tryz.aum, fun w vs m av hH hav hgl hsz ha => ?_⟩
 obtain ⟨v, u, rfl⟩ : ∃ v u, vs = #[v, u] := by
  match vs, hsz with
  | ⟨[v, u]⟩, _ => exact ⟨v, u, rfl⟩
 have h0 := ha 0 (by simp)
 have h1 := ha 1 (by simp)
 simp only [List.getElem_cons_zero, List.getElem_cons_succ] at h0 h1
 obtain rfl : v = .string s := by
  simp at h0; cases h0; rfl
 obtain rfl : u = .string ⟨#[c]⟩ := by
  simp at h1; cases h1; rfl
 refine (Tryz.stringslite_Index_one s c w).mono ?_
 rintro e w' ⟨rfl, rfl⟩
 exact ⟨_, m, rfl, Ext.refl _ _, ⟨fun i j ci cj h => by simp at h, fun id cs h => by simp at h, fun id cs h => by simp at h⟩, .int _ _, fun id cs h => by simp at h⟩
theorem ah5 (s : ByteArray) (c : UInt8) (hs : s.size ≤ 281474976710656) : Ctr Tryz.prog 124 [.str s, .str ⟨#[c]⟩] [] (.tup [.str (bef c s), .str (aft c s), .bool (fnd c s)]) [] := by
 have hi := am1 c s
 refine Ctr.intro Tryz.mixed Tryz.func124 rfl Tryz.aul ?_
 simp -implicitDefEqProofs -dsimp only [go_sem, Tryz.ntmps124, Tryz.results124]
 (first | refine al.at (zr s c) ⟨leA, leA, trivial⟩ ?_ | refine ak.at (zr s c) ⟨leA, leA, trivial⟩ ?_)
 simp -implicitDefEqProofs -dsimp only [go_sem]
 refine bc.split (fun h1 => ?_) (fun h1 => ?_) <;> simp -implicitDefEqProofs -dsimp only [go_sem, h1]
 · have h1' := of_decide_eq_true h1
   repeat (with_reducible refine ah ?_)
   have e1 : ((#[c] : Array UInt8).size : Int) = 1 := rfl
   have e2 : (idx c s + 1).toNat = (idx c s).toNat + 1 := by omega
   rw [e1, wrap_i64 (by omega) (by omega), e2]
   refine ⟨⟨by omega, by omega⟩, aj.au ?_ (by rfl)⟩
   rw [bef, aft, fnd, if_pos h1', if_pos h1', h1]
 · have h1' := of_decide_eq_false h1
   exact aj.au (by rw [bef, aft, fnd, if_neg h1', if_neg h1', h1]) (by rfl)
theorem afs (s : ByteArray) (c : UInt8) (hs : s.size ≤ 281474976710656) : Ctr Tryz.prog 67 [.str s, .str ⟨#[c]⟩] [] (.tup [.str (bef c s), .str (aft c s), .bool (fnd c s)]) [] := by
 refine Ctr.intro Tryz.mixed Tryz.func67 rfl Tryz.a4t ?_
 simp -implicitDefEqProofs -dsimp only [go_sem, Tryz.ntmps67, Tryz.results67]
 (have ct := ah5 s c hs; (first | refine al.at ct ⟨leA, leA, trivial⟩ ?_ | refine ak.at ct ⟨leA, leA, trivial⟩ ?_); clear ct)
 simp -implicitDefEqProofs -dsimp only [go_sem]
 exact aj.au rfl (by rfl)
def ff (c : UInt8) (s : ByteArray) : Nat → List ByteArray × Nat
 | 0 => ([], 0)
 | i + 1 => if h : i < s.size then (if (s[i]'h == c) = true then ((ff c s i).1 ++ [s.extract (ff c s i).2 i], i + 1) else ff c s i) else ff c s i
theorem o6 {c : UInt8} {s : ByteArray} {i : Nat} (h : i < s.size) (hc : (s[i]'h == c) = true) : ff c s (i + 1) = ((ff c s i).1 ++ [s.extract (ff c s i).2 i], i + 1) := by
 rw [ff, dif_pos h, if_pos hc]
theorem r8 {c : UInt8} {s : ByteArray} {i : Nat} (h : i < s.size) (hc : (s[i]'h == c) = false) : ff c s (i + 1) = ff c s i := by
 rw [ff, dif_pos h, if_neg (by simp [hc])]
theorem abc (c : UInt8) (s : ByteArray) : ∀ i, i ≤ s.size → (ff c s i).2 ≤ i ∧ (ff c s i).1.length ≤ i
 | 0, _ => by simp [ff]
 | i + 1, h => by
  have ih := abc c s i (by omega)
  have hi : i < s.size := by omega
  cases hc : (s[i]'hi == c) with
  | true => rw [o6 hi hc]; simp; omega
  | false => rw [r8 hi hc]; omega
def iz (c : UInt8) (s : ByteArray) : List ByteArray := (ff c s s.size).1 ++ [s.extract (ff c s s.size).2 s.size]
theorem akn {c : UInt8} {s : ByteArray} {i : Nat} (h : i < s.size) (h0 : oa (fun b => !(b == c)) s i = true) (hc : (s[i]'h == c) = true) : idx c s = i := by
 have hl : i < s.data.toList.length := h
 have e : s.data.toList = s.data.toList.take i ++ c :: s.data.toList.drop (i + 1) := by
  have : s.data.toList[i] = c := by rw [lu s h]; simpa using hc
  rw [← this, ← List.drop_eq_getElem_cons hl, List.take_append_drop]
 rw [idx, e, ai1 _ h0]
 simp
 omega
theorem adw (c : UInt8) (s : ByteArray) : ∀ i, i ≤ s.size → (oa (fun b => !(b == c)) s i = true → ff c s i = ([], 0)) ∧ (oa (fun b => !(b == c)) s i = false → fnd c s = true ∧ ∃ l, (ff c s i).1 = bef c s :: l)
 | 0, _ => ⟨fun _ => rfl, fun h => by simp [oa] at h⟩
 | i + 1, h => by
  have hi : i < s.size := by omega
  obtain ⟨h1, h2⟩ := adw c s i (by omega)
  cases hc : (s[i]'hi == c) with
  | true =>
   rw [o6 hi hc, pa hi]
   refine ⟨fun g => by simp [hc] at g, fun _ => ?_⟩
   cases ha : oa (fun b => !(b == c)) s i with
   | true =>
    have hx := akn hi ha hc
    refine ⟨by rw [fnd, hx]; exact decide_eq_true (by omega), [], ?_⟩
    rw [h1 ha, bef, hx, if_pos (by omega)]
    simp
   | false =>
    obtain ⟨g1, l, g2⟩ := h2 ha
    refine ⟨g1, l ++ [s.extract (ff c s i).2 i], ?_⟩
    rw [g2]; rfl
  | false =>
   rw [r8 hi hc, pa hi]
   have e : (oa (fun b => !(b == c)) s i && !(s[i]'hi == c)) = oa (fun b => !(b == c)) s i := by rw [hc]; simp
   rw [e]
   exact ⟨h1, h2⟩
theorem rn (c : UInt8) (s : ByteArray) : ∃ l, iz c s = bef c s :: l ∧ (l = [] ↔ fnd c s = false) := by
 obtain ⟨h1, h2⟩ := adw c s s.size (Nat.le_refl _)
 rw [vb] at h1 h2
 cases ha : fi (fun b => !(b == c)) s with
 | true =>
  obtain ⟨_, g2, _, g4⟩ := aot (c := c) (x := s) ha
  refine ⟨[], ?_, by simp [g4]⟩
  rw [iz, h1 ha, g2]
  simp
 | false =>
  obtain ⟨g1, l, g2⟩ := h2 ha
  refine ⟨l ++ [s.extract (ff c s s.size).2 s.size], by rw [iz, g2]; rfl, ?_⟩
  rw [g1]
  simp
theorem sf (s : ByteArray) (c : UInt8) (hs : s.size ≤ 16777216) : Ctr Tryz.prog 73 [.str s, .int .u8 c.toNat] [] (.osl 0 0 (iz c s).length 1) [some (rows StringS.cs (iz c s))] := by
 refine Ctr.intro Tryz.mixed Tryz.func73 rfl Tryz.a52 ?_
 simp -implicitDefEqProofs -dsimp only [go_sem, Tryz.ntmps73, Tryz.results73]
 refine de.intro (fun i : Nat => i ≤ s.size) (fun i => ⟨[.str s, .int .u8 c.toNat, .undef, .undef, .undef, .osl 0 0 (ff c s i).1.length 1, .int .i64 (ff c s i).2, .int .i64 i, .undef, .undef, .undef, .undef, .undef, .undef, .undef, .undef, .undef, .undef, .undef, .undef, .undef, .undef, .undef, .undef, .undef, .undef, .undef, .undef, .undef, .undef, .undef, .undef, .undef, .undef, .undef], [some (rows StringS.cs (ff c s i).1)], 0⟩) (fun i => s.size - i) 0 (Nat.zero_le _) ?_ (fun i hi => ?_)
 · refine bt.cut (1) (by simp) (by simp) ?_ ?_
   · simp [LeC, LeV, ren, br, ff]
   · simp [cd, dd, ff, rows]
 have hbd := abc c s i hi
 simp -implicitDefEqProofs -dsimp only [go_sem]
 refine bc.split (fun h1 => ?_) (fun h1 => ?_)
 · simp -implicitDefEqProofs -dsimp only [go_sem, h1]
   have hi' : i < s.size := by simpa using h1
   refine ⟨⟨by omega, hi'⟩, ?_⟩
   have hbb : ((s[i]'hi') == c) = (((s[i]'hi').toNat : Int) == (c.toNat : Int)) := by
    rw [Bool.eq_iff_iff]; simp only [beq_iff_eq]
    constructor
    · intro g; rw [g]
    · intro g; exact UInt8.toNat_inj.1 (by omega)
   refine bc.split (fun h2 => ?_) (fun h2 => ?_) <;> simp -implicitDefEqProofs -dsimp only [go_sem, h2]
   · (repeat ((repeat1' (first | simp -implicitDefEqProofs -dsimp only [go_sem, aw, a8, Nat.mul_one] | simp -dsimp (disch := omega) only [wrap_i64])); repeat (with_reducible refine ah ?_)))
     refine ⟨i + 1, hi', ?_, by omega⟩
     refine bt.cut (1) (by simp) (by simp) ?_ ?_
     · rw [o6 hi' (by rw [hbb]; exact h2)]
       simp [LeC, LeV, ren, br]
     · rw [o6 hi' (by rw [hbb]; exact h2), ← eg]
       simp [cd, dd, ren, br, ae, cz, StringS.cs]
   · try (repeat1' (first | simp -implicitDefEqProofs -dsimp only [go_sem] | simp -dsimp (disch := omega) only [wrap_i64]))
     refine ⟨i + 1, hi', ?_, by omega⟩
     refine bt.cut (1) (by simp) (by simp) ?_ ?_
     · rw [r8 hi' (by rw [hbb]; exact h2)]
       simp [LeC, LeV, ren, br]
     · rw [r8 hi' (by rw [hbb]; exact h2)]
       simp [cd, dd, ae]
 · simp -implicitDefEqProofs -dsimp only [go_sem, h1]
   have hi' : i = s.size := by simp at h1; omega
   subst hi'
   (repeat ((repeat1' (first | simp -implicitDefEqProofs -dsimp only [go_sem, aw, a8, Nat.mul_one] | simp -dsimp (disch := omega) only [wrap_i64])); repeat (with_reducible refine ah ?_)))
   have hl : (iz c s).length = (ff c s s.size).1.length + 1 := by simp [iz]
   rw [hl]
   refine aj.pick [0] (by decide) (fun j hj => by omega) (.inl ?_) ?_
   · rfl
   · simp only [bb, List.map_cons, List.map_nil, bj, List.getElem?_cons_zero, iz, ← eg]
     simp [ren, bf, posOf, ae, StringS.cs, cz]
end Go.Proofs
end
