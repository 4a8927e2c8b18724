/-
  A part of the proof: texts put together by a program of the prover. Conditions: none.
-/
import Derived.Test.YtfpkiomipjmabaaGreatDoorZC9
import Derived.Test.YtfpkiomipjmabaaGreatDoorZC10
import Derived.Lib.AppendIntMem
set_option linter.unusedSimpArgs false
set_option linter.unusedVariables false
section
set_option maxRecDepth 100000
namespace Go.Proofs
open Go.Lv
theorem an5 {w : World} {av : Nat → Prop} (h : GL w av) : Lib.TabIs Tryz.prog w "internal/strconv.uint64pow10" .u64 Lib.pow10Tab := by
 obtain ⟨_, T, fr, h2⟩ := h.1 _ (List.mem_singleton.2 rfl)
 have hg : Tryz.prog.globalNamed "internal/strconv.uint64pow10" = some 5 := by kernel_rfl
 unfold Lib.TabIs World.var?
 rw [hg, Option.bind_some, h2]
 rfl
theorem akb {W : World} (h : Lib.TabIs Tryz.prog W "internal/strconv.uint64pow10" .u64 Lib.pow10Tab) (hv : ∀ p ∈ afo, ¬ False ∧ ∃ C T fr v, W.heap[p.1]? = some (.cells C T fr) ∧ C[0]? = some v ∧ awt p.2 v) : GL W (fun _ => False) := by
 refine ⟨fun p hp => ?_, hv⟩
 have hp' := List.mem_singleton.1 hp
 subst hp'
 have hg : Tryz.prog.globalNamed "internal/strconv.uint64pow10" = some 5 := by kernel_rfl
 unfold Lib.TabIs World.var? at h
 rw [hg, Option.bind_some] at h
 dsimp only at h ⊢
 split at h
 · rename_i cs T fr hc
   refine ⟨fun h => h, T, fr, ?_⟩
   rw [hc]
   simp only [Option.some.injEq] at h
   subst h
   rfl
 · cases h
theorem mf (n : Int) (hn : iq n) : Ctr Tryz.prog 134 [.int .i64 n] [] (.str (num n)) [] := by
 refine ⟨Tryz.awq, fun w vs m av hH hav hgl hsz ha => ?_⟩
 obtain ⟨v, rfl⟩ : ∃ v, vs = #[v] := by
   match vs, hsz with
   | ⟨[v]⟩, _ => exact ⟨v, rfl⟩
 have h0 := ha 0 (by simp)
 simp only [List.getElem_cons_zero] at h0
 have hv : v = .int .i64 n := by
   have := rm h0
   simpa using this
 subst hv
 refine (Tryz.strconv_Itoa n hn.1 hn.2 w (an5 hgl)).mono ?_
 rintro e w' ⟨rfl, k, os, rfl⟩
 refine ⟨_, m, rfl, ?_, ⟨fun i j ci cj h => by simp at h, fun id cs h => by simp at h, fun id cs h => by simp at h⟩, .str _, fun id cs h => by simp at h⟩
 have hb : ∀ g, g < w.heap.size → (Sort.grow (w.drewN k) os).heap[g]? = w.heap[g]? := fun g hg => Lib.heap_grow_old w k os g hg
 exact ⟨rfl, rfl, rfl, Lib.size_grow w k os, fun g hg _ => hb g hg, fun g hg => Nat.le_of_eq (gk (hb g hg)).symm⟩
theorem qk (n : Int) (hn : iq n) : Ctr Tryz.prog 81 [.int .i64 n] [] (.str (num n)) [] := by
 refine Ctr.intro Tryz.mixed Tryz.func81 rfl Tryz.a23 ?_
 simp -implicitDefEqProofs -dsimp only [go_sem, Tryz.ntmps81, Tryz.results81]
 (first | refine ak.at (mf n hn) ⟨leA, trivial⟩ ?_ | refine aj.at (mf n hn) ⟨leA, trivial⟩ ?_)
 simp -implicitDefEqProofs -dsimp only [go_sem]
 exact al.ax rfl (by rfl)
theorem af4 : ∀ (k u : Nat), u < k → u ≤ 9223372036854775807 → Ctr Tryz.prog 82 [.int .i64 u] [] (.str (num u)) [] := by
 intro k
 induction k with
 | zero => intro u h; omega
 | succ k ih =>
   intro u hu hb
   refine Ctr.intro Tryz.mixed Tryz.func82 rfl Tryz.at6 ?_
   simp -implicitDefEqProofs -dsimp only [go_sem, Tryz.ntmps82, Tryz.results82]
   refine bd.split (fun h => absurd h (by simp)) (fun h => ?_)
   simp -implicitDefEqProofs -dsimp only [go_sem, h]
   refine bd.split (fun h2 => ?_) (fun h2 => ?_)
   · have hlt : u < 10 := by simp at h2; omega
     (repeat ((repeat1' (first | simp -implicitDefEqProofs -dsimp only [go_sem, h2] | simp -dsimp (disch := omega) only [wrap_i64])); repeat (with_reducible refine ah ?_)))
     have e : ((u : Int) + 1).toNat = u + 1 := by omega
     have e2 : ((#[48, 49, 50, 51, 52, 53, 54, 55, 56, 57] : Array UInt8).size : Int) = 10 := rfl
     rw [e, e2]
     refine ⟨⟨by omega, by omega, by omega⟩, al.ax ?_ (by rfl)⟩
     rw [ah1 hlt, digits]
   · have hge : ¬ u < 10 := by simp at h2; omega
     have t1 : Int.tdiv (u : Int) 10 = ((u / 10 : Nat) : Int) := rfl
     have t2 : Int.tmod (u : Int) 10 = ((u % 10 : Nat) : Int) := rfl
     (repeat ((repeat1' (first | simp -implicitDefEqProofs -dsimp only [go_sem, h2, t1, t2] | simp -dsimp (disch := omega) only [wrap_i64])); repeat (with_reducible refine ah ?_)))
     (have ct := ih (u / 10) (by omega) (by omega); (first | refine ak.at ct ⟨leA, trivial⟩ ?_ | refine aj.at ct ⟨leA, trivial⟩ ?_); clear ct)
     have e : (((u % 10 : Nat) : Int) + 1).toNat = u % 10 + 1 := by omega
     have e2 : ((#[48, 49, 50, 51, 52, 53, 54, 55, 56, 57] : Array UInt8).size : Int) = 10 := rfl
     have hs := j6 (n := ((u / 10 : Nat) : Int)) (by omega) (by omega)
     have hd : ({ data := #[48, 49, 50, 51, 52, 53, 54, 55, 56, 57] } : ByteArray).extract (u % 10) (u % 10 + 1) = ⟨#[UInt8.ofNat (48 + u % 10)]⟩ := r4 (u % 10) (by omega)
     (repeat ((repeat1' (first | simp -implicitDefEqProofs -dsimp only [go_sem, e, e2, hd, bo] | simp -dsimp (disch := omega) only [wrap_i64])); repeat (with_reducible refine ah ?_)))
     refine ⟨by simp only [List.size_toArray, List.length_cons, List.length_nil]; omega, al.ax ?_ (by rfl)⟩
     rw [aco hge, r4 (u % 10) (by omega)]
theorem fi (n : Int) (h0 : -9223372036854775807 ≤ n) (h1 : n ≤ 9223372036854775807) : Ctr Tryz.prog 82 [.int .i64 n] [] (.str (num n)) [] := by
 rcases Int.lt_or_le n 0 with hn | hn
 · obtain ⟨u, rfl⟩ : ∃ u : Nat, n = -(u : Int) := ⟨n.natAbs, by omega⟩
   refine Ctr.intro Tryz.mixed Tryz.func82 rfl Tryz.at6 ?_
   simp -implicitDefEqProofs -dsimp only [go_sem, Tryz.ntmps82, Tryz.results82]
   refine bd.split (fun h => ?_) (fun h => absurd h (by simp; omega))
   have e : IntKind.i64.wrap (0 - -(u : Int)) = (u : Int) := by rw [wrap_i64 (by omega) (by omega)]; omega
   simp -implicitDefEqProofs -dsimp only [go_sem, h, e]
   (have ct := af4 (u + 1) u (by omega) (by omega); (first | refine ak.at ct ⟨leA, trivial⟩ ?_ | refine aj.at ct ⟨leA, trivial⟩ ?_); clear ct)
   have hs := j6 (n := (u : Int)) (by omega) (by omega)
   simp -implicitDefEqProofs -dsimp only [go_sem, bo]
   refine ⟨by simp; omega, al.ax ?_ (by rfl)⟩
   rw [atb (by omega)]
 · obtain ⟨u, rfl⟩ : ∃ u : Nat, n = u := ⟨n.toNat, by omega⟩
   exact af4 (u + 1) u (by omega) (by omega)
end Go.Proofs
end
section
set_option maxRecDepth 100000
set_option maxHeartbeats 1000000
namespace Go.Proofs
open Go.Lv
theorem adp (p : UInt8 → Bool) (a b : ByteArray) : fp p (a ++ b) = (fp p a && fp p b) := by
 simp [fp, ByteArray.data_append]
theorem afb : ∀ (n u : Nat), u < n → fp (fun b => !(b == 35)) (num u) = true
 | 0, u, h => by omega
 | n + 1, u, h => by
   have one : ∀ d, d < 10 → fp (fun b => !(b == 35)) (digits.extract d (d + 1)) = true := by
     intro d hd
     rw [r4 d hd]
     match d, hd with
     | 0, _ => decide
     | 1, _ => decide
     | 2, _ => decide
     | 3, _ => decide
     | 4, _ => decide
     | 5, _ => decide
     | 6, _ => decide
     | 7, _ => decide
     | 8, _ => decide
     | 9, _ => decide
   by_cases c : u < 10
   · rw [ah1 c]; exact one u c
   · rw [aco c, adp, afb n (u / 10) (by omega), one (u % 10) (by omega)]; rfl
def ack (h : Int) (b : UInt8) : Int := (41 * h + b.toNat + 1) % 999979
def px (s : ByteArray) (i : Nat) : Int := (s.data.toList.take i).foldl ack 7
def ckS (s : ByteArray) : Int := px s s.size
theorem zp {s : ByteArray} {i : Nat} (h : i < s.size) : px s (i + 1) = ack (px s i) (s[i]'h) := by
 have hl : i < s.data.toList.length := h
 rw [px, List.take_succ_eq_append_getElem hl, List.foldl_append, ← lj s h]; rfl
theorem agh (s : ByteArray) : ∀ i, i ≤ s.size → 0 ≤ px s i ∧ px s i < 999979
 | 0, _ => by simp [px]
 | i + 1, h => by
   rw [zp (by omega : i < s.size), ack]
   omega
theorem akq (s : ByteArray) : 0 ≤ ckS s ∧ ckS s < 999979 := agh s s.size (Nat.le_refl _)
theorem aml {h : Int} {b : UInt8} (h0 : 0 ≤ h) : (41 * h + b.toNat + 1).tmod 999979 = ack h b := by
 rw [ack, Int.tmod_eq_emod_of_nonneg (by omega)]
theorem ajt (s : ByteArray) (hs : s.size ≤ 4000) : Ctr Tryz.prog 252 [.str s] [] (.tup [.int .i64 (ckS s), .bool true]) [] := by
 refine Ctr.intro Tryz.mixed Tryz.func252 rfl Tryz.ayc ?_
 simp -implicitDefEqProofs -dsimp only [go_sem, Tryz.ntmps252, Tryz.results252]
 have c0 : decide ((4000 : Int) < s.size) = false := decide_eq_false (by omega)
 simp -implicitDefEqProofs -dsimp only [go_sem, c0]
 refine cw.intro (fun i : Nat => i ≤ s.size) (fun i => ⟨[.str s, .undef, .undef, .undef, .int .i64 (px s i), .undef, .undef, .undef, .undef, .undef, .int .i64 s.size, .int .i64 i, .undef, .undef, .undef, .undef, .undef, .undef, .undef, .undef, .undef, .undef, .undef, .undef, .undef], [], 0⟩) (fun i => s.size - i) 0 (Nat.zero_le _) ?_ (fun i hi => ?_)
 · refine br.cut (0) (by simp) (by simp) ?_ ?_
   · simp [LeC, LeV, ren, bm, px]
   · rfl
 simp -implicitDefEqProofs -dsimp only [go_sem]
 refine bd.split (fun h1 => ?_) (fun h1 => ?_)
 · simp -implicitDefEqProofs -dsimp only [go_sem, h1]
   have hi' : i < s.size := by simpa using h1
   have hu := UInt8.toNat_lt (s[i]'hi')
   have hbd := agh s i hi
   have hw1 : IntKind.i64.wrap ((s[i]'hi').toNat : Int) = ((s[i]'hi').toNat : Int) := wrap_i64 (by omega) (by omega)
   have hw2 : IntKind.i64.wrap (41 * px s i) = 41 * px s i := wrap_i64 (by omega) (by omega)
   have hw3 : IntKind.i64.wrap (41 * px s i + ((s[i]'hi').toNat : Int)) = 41 * px s i + ((s[i]'hi').toNat : Int) := wrap_i64 (by omega) (by omega)
   have hw4 : IntKind.i64.wrap (41 * px s i + ((s[i]'hi').toNat : Int) + 1) = 41 * px s i + ((s[i]'hi').toNat : Int) + 1 := wrap_i64 (by omega) (by omega)
   have hq := aml (b := s[i]'hi') hbd.1
   refine ⟨⟨by omega, hi'⟩, ?_⟩
   try (repeat1' (first | simp -implicitDefEqProofs -dsimp only [go_sem, hw1, hw2, hw3, hw4, hq] | simp -dsimp (disch := omega) only [wrap_i64]))
   repeat (with_reducible refine And.intro ?_ ?_; focus (first | omega | with_reducible rfl | (show bp _ = true; kernel_rfl) | (simp only [ay, bb, List.length_append, List.length_cons, List.length_nil, List.all_append, List.all_cons, List.all_nil, bq, Nat.mul_one, Nat.one_mul, Bool.and_self]; first | done | omega) | (simp only [ByteArray.size_append, bo, List.size_toArray, List.length_cons, List.length_nil]; omega)))
   refine ⟨i + 1, hi', ?_, by omega⟩
   refine br.cut (0) (by simp) (by simp) ?_ ?_
   · rw [zp hi']
     try rw [wrap_i64 (by omega) (by omega)]
     simp [LeC, LeV, ren, bm]
   · rfl
 · simp -implicitDefEqProofs -dsimp only [go_sem, h1]
   have hi' : i = s.size := by simp at h1; omega
   subst hi'
   exact al.ax rfl (by rfl)
theorem aje (s : ByteArray) (hs : s.size ≤ 4000) : Ctr Tryz.prog 237 [.str s] [] (.int .i64 (ckS s)) [] := by
 refine Ctr.intro Tryz.mixed Tryz.func237 rfl Tryz.aw9 ?_
 simp -implicitDefEqProofs -dsimp only [go_sem, Tryz.ntmps237, Tryz.results237]
 refine cw.intro (fun i : Nat => i ≤ s.size) (fun i => ⟨[.str s, .undef, .undef, .int .i64 (px s i), .int .i64 i, .undef, .undef, .undef, .undef, .undef, .undef, .undef, .undef, .undef, .undef, .undef, .undef, .undef, .undef, .undef, .undef], [], 0⟩) (fun i => s.size - i) 0 (Nat.zero_le _) ?_ (fun i hi => ?_)
 · refine br.cut (0) (by simp) (by simp) ?_ ?_
   · simp [LeC, LeV, ren, bm, px]
   · rfl
 simp -implicitDefEqProofs -dsimp only [go_sem]
 refine bd.split (fun h1 => ?_) (fun h1 => ?_)
 · simp -implicitDefEqProofs -dsimp only [go_sem, h1]
   have hi' : i < s.size := by simpa using h1
   have hu := UInt8.toNat_lt (s[i]'hi')
   have hbd := agh s i hi
   have hw1 : IntKind.i64.wrap ((s[i]'hi').toNat : Int) = ((s[i]'hi').toNat : Int) := wrap_i64 (by omega) (by omega)
   have hw2 : IntKind.i64.wrap (41 * px s i) = 41 * px s i := wrap_i64 (by omega) (by omega)
   have hw3 : IntKind.i64.wrap (41 * px s i + ((s[i]'hi').toNat : Int)) = 41 * px s i + ((s[i]'hi').toNat : Int) := wrap_i64 (by omega) (by omega)
   have hw4 : IntKind.i64.wrap (41 * px s i + ((s[i]'hi').toNat : Int) + 1) = 41 * px s i + ((s[i]'hi').toNat : Int) + 1 := wrap_i64 (by omega) (by omega)
   have hq := aml (b := s[i]'hi') hbd.1
   refine ⟨⟨by omega, hi'⟩, ?_⟩
   try (repeat1' (first | simp -implicitDefEqProofs -dsimp only [go_sem, hw1, hw2, hw3, hw4, hq] | simp -dsimp (disch := omega) only [wrap_i64]))
   repeat (with_reducible refine And.intro ?_ ?_; focus (first | omega | with_reducible rfl | (show bp _ = true; kernel_rfl) | (simp only [ay, bb, List.length_append, List.length_cons, List.length_nil, List.all_append, List.all_cons, List.all_nil, bq, Nat.mul_one, Nat.one_mul, Bool.and_self]; first | done | omega) | (simp only [ByteArray.size_append, bo, List.size_toArray, List.length_cons, List.length_nil]; omega)))
   refine ⟨i + 1, hi', ?_, by omega⟩
   refine br.cut (0) (by simp) (by simp) ?_ ?_
   · rw [zp hi']
     try rw [wrap_i64 (by omega) (by omega)]
     simp [LeC, LeV, ren, bm]
   · rfl
 · simp -implicitDefEqProofs -dsimp only [go_sem, h1]
   have hi' : i = s.size := by simp at h1; omega
   subst hi'
   exact al.ax rfl (by rfl)
def np (s : ByteArray) : ByteArray := (s ++ ⟨#[35]⟩) ++ num (ckS s)
theorem adi (s : ByteArray) : (num (ckS s)).size ≤ 21 := by
 have := akq s
 exact j6 (by omega) (by omega)
theorem il (s : ByteArray) : (np s).size ≤ s.size + 22 := by
 have := adi s
 unfold np
 simp only [ByteArray.size_append, bo, List.size_toArray, List.length_cons, List.length_nil]; omega
theorem ank (s : ByteArray) (hs : s.size ≤ 4000) : Ctr Tryz.prog 197 [.str s] [] (.str (np s)) [] := by
 have hc := akq s
 have hz := adi s
 refine Ctr.intro Tryz.mixed Tryz.func197 rfl Tryz.awr ?_
 simp -implicitDefEqProofs -dsimp only [go_sem, Tryz.ntmps197, Tryz.results197]
 repeat (first | ((first | refine ak.at (aje s hs) ⟨leA, trivial⟩ ?_ | refine aj.at (aje s hs) ⟨leA, trivial⟩ ?_); simp -implicitDefEqProofs -dsimp only [go_sem]) | ((have ct := fi (ckS s) (by omega) (by omega); (first | refine ak.at ct ⟨leA, trivial⟩ ?_ | refine aj.at ct ⟨leA, trivial⟩ ?_); clear ct); simp -implicitDefEqProofs -dsimp only [go_sem]) | (with_reducible refine And.intro (by first | omega | (show bp _ = true; kernel_rfl) | (simp only [ByteArray.size_append, bo, List.size_toArray, List.length_cons, List.length_nil]; omega)) ?_; try (repeat1' (first | simp -implicitDefEqProofs -dsimp only [go_sem] | simp -dsimp (disch := omega) only [wrap_i64]))))
 exact al.ax rfl (by rfl)
theorem yd (s : ByteArray) (hs : s.size ≤ 1000) (hp : fp (fun b => !(b == 35)) s = true) : Ctr Tryz.prog 209 [.str s] [] (.tup [.str (np s), .bool true]) [] := by
 have hc := akq s
 have hz := adi s
 have hss := il s
 have hno : decide (0 ≤ Lib.indexByte s.data.toList 35) = false := by
   rw [rq]
   show (!(fp (fun b => !(b == 35)) s)) = false
   rw [hp]; rfl
 have hlong : decide ((4000 : Int) < ((np s).size : Int)) = false := decide_eq_false (by omega)
 refine Ctr.intro Tryz.mixed Tryz.func209 rfl Tryz.awi ?_
 simp -implicitDefEqProofs -dsimp only [go_sem, Tryz.ntmps209, Tryz.results209]
 repeat (first | ((have ct := ajt s (by omega); (first | refine ak.at ct ⟨leA, trivial⟩ ?_ | refine aj.at ct ⟨leA, trivial⟩ ?_); clear ct); simp -implicitDefEqProofs -dsimp only [go_sem]) | ((have ct := mf (ckS s) ⟨by omega, by omega⟩; (first | refine ak.at ct ⟨leA, trivial⟩ ?_ | refine aj.at ct ⟨leA, trivial⟩ ?_); clear ct); simp -implicitDefEqProofs -dsimp only [go_sem]) | (with_reducible refine And.intro (by first | omega | (show bp _ = true; kernel_rfl) | (simp only [ByteArray.size_append, bo, List.size_toArray, List.length_cons, List.length_nil]; omega)) ?_; try (repeat1' (first | simp -implicitDefEqProofs -dsimp only [go_sem] | simp -dsimp (disch := omega) only [wrap_i64]))))
 (have ct := u7 s 35; (first | refine ak.at ct ⟨leA, leA, trivial⟩ ?_ | refine aj.at ct ⟨leA, leA, trivial⟩ ?_); clear ct)
 have e : (s ++ (⟨#[35]⟩ : ByteArray)) ++ num (ckS s) = np s := rfl
 rw [e]
 simp -implicitDefEqProofs -dsimp only [go_sem, hno, hlong]
 exact al.ax rfl (by rfl)
def dh (k : Int) (e : aw) : ByteArray := (((num k ++ ⟨#[32]⟩) ++ e.Command) ++ ⟨#[64]⟩) ++ e.Reply
def fu (k : Int) (e : aw) : ByteArray := np (dh k e) ++ ⟨#[10]⟩
theorem sr {e : aw} (h : iw e = true) : e.Command.size ≤ 160 ∧ e.Reply.size ≤ 200 ∧ fp (fun b => da b && !(b == 64)) e.Command = true ∧ fp da e.Reply = true ∧ 1 ≤ e.Command.size := by
 simp [iw] at h
 exact ⟨h.1.1.2, h.2.1, h.1.2, h.2.2, h.1.1.1⟩
theorem gb {k : Int} {e : aw} (hk : 0 ≤ k ∧ k ≤ 59) (h : iw e = true) : (dh k e).size ≤ 400 := by
 have := sr h
 have := j6 (n := k) (by omega) (by omega)
 unfold dh
 simp only [ByteArray.size_append, bo, List.size_toArray, List.length_cons, List.length_nil]; omega
theorem aaa {p q : UInt8 → Bool} {s : ByteArray} (h : fp p s = true) (hpq : ∀ b, p b = true → q b = true) : fp q s = true :=
 List.all_eq_true.2 fun x hx => hpq x (List.all_eq_true.1 h x hx)
theorem wq {k : Int} {e : aw} (hk : 0 ≤ k ∧ k ≤ 59) (h : iw e = true) : fp (fun b => !(b == 35)) (dh k e) = true := by
 obtain ⟨_, _, h3, h4, _⟩ := sr h
 obtain ⟨u, rfl⟩ := Int.eq_ofNat_of_zero_le hk.1
 have n1 : fp (fun b => !(b == 35)) (num (u : Int)) = true := afb (u + 1) u (by omega)
 have c1 : fp (fun b => !(b == 35)) e.Command = true := aaa h3 (fun b hb => by simp [da] at hb ⊢; exact hb.1.2)
 have c2 : fp (fun b => !(b == 35)) e.Reply = true := aaa h4 (fun b hb => by simp [da] at hb ⊢; exact hb.2)
 unfold dh
 simp only [adp, n1, c1, c2, Bool.true_and, Bool.and_true]
 rfl
def ala (k : Int) (e : aw) : List V := if eb k 0 59 = true ∧ iw e = true then [.str (fu k e), .bool true] else [.str ⟨#[]⟩, .bool false]
theorem sf (k : Int) (e : aw) (hc : e.Command.size ≤ 281474976710656) (hr : e.Reply.size ≤ 281474976710656) : Ctr Tryz.prog 151 [.int .i64 k, e.v] [] (.tup (ala k e)) [] := by
 refine Ctr.intro Tryz.mixed Tryz.func151 rfl Tryz.ayu ?_
 simp -implicitDefEqProofs -dsimp only [go_sem, Tryz.ntmps151, Tryz.results151]
 simp -implicitDefEqProofs -dsimp only [go_sem, aw.v]
 (first | refine ak.at (jy k 0 59) ⟨leA, leA, leA, trivial⟩ ?_ | refine aj.at (jy k 0 59) ⟨leA, leA, leA, trivial⟩ ?_)
 simp -implicitDefEqProofs -dsimp only [go_sem]
 refine a8.ch (fun g1 => ?_) (fun g1 => ?_) <;> simp -implicitDefEqProofs -dsimp only [go_sem, g1]
 rotate_left
 · exact al.ax (by rw [ala, if_neg (by simp at g1; simp [g1])]) (by rfl)
 (have ct := lr e hc hr; (first | refine ak.at ct ⟨leA, trivial⟩ ?_ | refine aj.at ct ⟨leA, trivial⟩ ?_); clear ct)
 simp -implicitDefEqProofs -dsimp only [go_sem]
 refine bd.split (fun g2 => ?_) (fun g2 => ?_) <;> simp -implicitDefEqProofs -dsimp only [go_sem, g2]
 · exact al.ax (by rw [ala, if_neg (by simp at g2; simp [g2])]) (by rfl)
 have hk : eb k 0 59 = true := by simpa using g1
 have he : iw e = true := by simpa using g2
 have hk' := fh.1 hk
 have z1 := j6 (n := k) (by omega) (by omega)
 have z2 := sr he
 have z3 := gb hk' he
 have z4 := il (dh k e)
 have e1 : (((num k ++ (⟨#[32]⟩ : ByteArray)) ++ e.Command) ++ (⟨#[64]⟩ : ByteArray)) ++ e.Reply = dh k e := rfl
 repeat (first | ((have ct := mf k ⟨by omega, by omega⟩; (first | refine ak.at ct ⟨leA, trivial⟩ ?_ | refine aj.at ct ⟨leA, trivial⟩ ?_); clear ct); simp -implicitDefEqProofs -dsimp only [go_sem]) | (with_reducible refine And.intro (by first | omega | (show bp _ = true; kernel_rfl) | (simp only [ByteArray.size_append, bo, List.size_toArray, List.length_cons, List.length_nil]; omega)) ?_; try (repeat1' (first | simp -implicitDefEqProofs -dsimp only [go_sem] | simp -dsimp (disch := omega) only [wrap_i64]))))
 rw [e1]
 repeat (first | ((have ct := yd (dh k e) (by omega) (wq hk' he); (first | refine ak.at ct ⟨leA, trivial⟩ ?_ | refine aj.at ct ⟨leA, trivial⟩ ?_); clear ct); simp -implicitDefEqProofs -dsimp only [go_sem]) | (with_reducible refine And.intro (by first | omega | (show bp _ = true; kernel_rfl) | (simp only [ByteArray.size_append, bo, List.size_toArray, List.length_cons, List.length_nil]; omega)) ?_; try (repeat1' (first | simp -implicitDefEqProofs -dsimp only [go_sem] | simp -dsimp (disch := omega) only [wrap_i64]))))
 exact al.ax (by rw [ala, if_pos ⟨hk, he⟩]; rfl) (by rfl)
theorem ade (k : Int) (e : aw) (hk : 0 ≤ k ∧ k ≤ 59) (he : iw e = true) : Ctr Tryz.prog 138 [.int .i64 k, e.v] [] (.str (fu k e)) [] := by
 have z1 := j6 (n := k) (by omega) (by omega)
 have z2 := sr he
 have z3 := gb hk he
 have z4 := il (dh k e)
 have e1 : (((num k ++ (⟨#[32]⟩ : ByteArray)) ++ e.Command) ++ (⟨#[64]⟩ : ByteArray)) ++ e.Reply = dh k e := rfl
 refine Ctr.intro Tryz.mixed Tryz.func138 rfl Tryz.awe ?_
 simp -implicitDefEqProofs -dsimp only [go_sem, Tryz.ntmps138, Tryz.results138]
 simp -implicitDefEqProofs -dsimp only [go_sem, aw.v]
 repeat (first | ((have ct := fi k (by omega) (by omega); (first | refine ak.at ct ⟨leA, trivial⟩ ?_ | refine aj.at ct ⟨leA, trivial⟩ ?_); clear ct); simp -implicitDefEqProofs -dsimp only [go_sem]) | (with_reducible refine And.intro (by first | omega | (show bp _ = true; kernel_rfl) | (simp only [ByteArray.size_append, bo, List.size_toArray, List.length_cons, List.length_nil]; omega)) ?_; try (repeat1' (first | simp -implicitDefEqProofs -dsimp only [go_sem] | simp -dsimp (disch := omega) only [wrap_i64]))))
 rw [e1]
 repeat (first | ((have ct := ank (dh k e) (by omega); (first | refine ak.at ct ⟨leA, trivial⟩ ?_ | refine aj.at ct ⟨leA, trivial⟩ ?_); clear ct); simp -implicitDefEqProofs -dsimp only [go_sem]) | (with_reducible refine And.intro (by first | omega | (show bp _ = true; kernel_rfl) | (simp only [ByteArray.size_append, bo, List.size_toArray, List.length_cons, List.length_nil]; omega)) ?_; try (repeat1' (first | simp -implicitDefEqProofs -dsimp only [go_sem] | simp -dsimp (disch := omega) only [wrap_i64]))))
 exact al.ax rfl (by rfl)
end Go.Proofs
end
section
set_option maxRecDepth 100000
namespace Go.Proofs
open Go.Lv
def StringS.cs (x : ByteArray) : List V := [.str x]
instance : nf StringS.cs 1 := ⟨fun _ => rfl, fun _ d => by cases d <;> rfl, fun _ => rfl, fun _ => rfl⟩
theorem StringS.csl (a : ByteArray) : (StringS.cs a).length = 1 := rfl
theorem StringS.csp (a : ByteArray) : (StringS.cs a).all (cc 2) = true := rfl
abbrev StringS.ok (x : ByteArray) : Prop := agl x
abbrev StringS.sl (L : List ByteArray) : V := .sl L.length 1 (Go.Lv.rows StringS.cs L)
abbrev StringS.zs : List V := [.str ByteArray.empty]
theorem zm (L : List ByteArray) (hl : L.length ≤ 281474976710656) : Ctr Tryz.prog 50 [StringS.sl L, StringS.sl L] [] (.bool true) [] := by
 refine Ctr.intro Tryz.mixed Tryz.func50 rfl Tryz.a3d ?_
 simp -implicitDefEqProofs -dsimp only [go_sem, Tryz.ntmps50, Tryz.results50]
 refine cw.intro (fun i : Nat => i ≤ L.length) (fun i => ⟨[StringS.sl L, StringS.sl L, .undef, .undef, .undef, .int .i64 i, .undef, .undef, .undef, .undef, .undef, .undef, .undef, .undef, .undef, .undef, .undef, .undef, .undef, .undef, .undef, .undef, .undef, .undef, .undef, .undef], [], 0⟩) (fun i => L.length - i) 0 (Nat.zero_le _) ?_ (fun i hi => ?_)
 · refine br.cut (0) (by simp) (by simp) ?_ ?_
   · simp [LeC, LeV, ren, bm]
   · rfl
 simp -implicitDefEqProofs -dsimp only [go_sem]
 refine bd.split (fun h1 => ?_) (fun h1 => ?_)
 · simp -implicitDefEqProofs -dsimp only [go_sem, h1]
   have hi' : i < L.length := by simpa using h1
   have hr := bt StringS.csl hi'
   (repeat1' (first | simp -implicitDefEqProofs -dsimp only [go_sem, hr, StringS.cs, bne_self_eq_false, beq_self_eq_true] | simp -dsimp (disch := omega) only [wrap_i64]))
   repeat (with_reducible refine ah ?_)
   refine ⟨i + 1, hi', ?_, by omega⟩
   refine br.cut (0) (by simp) (by simp) ?_ ?_
   · simp [LeC, LeV, ren, bm]
   · rfl
 · simp -implicitDefEqProofs -dsimp only [go_sem, h1]
   exact al.refl _ _ _
abbrev StringS.v (x : ByteArray) : V := .str x
end Go.Proofs
end
section
set_option maxRecDepth 100000
set_option maxHeartbeats 1000000
namespace Go.Proofs
open Go.Lv
theorem ra {a b : ByteArray} (h : a.data.toList = b.data.toList) : a = b := by
 apply ByteArray.ext
 exact Array.toList_inj.1 h
theorem lu (a b : ByteArray) : (a ++ b).data.toList = a.data.toList ++ b.data.toList := by simp [ByteArray.data_append]
theorem dx (s : ByteArray) (a b : Nat) : (s.extract a b).data.toList = (s.data.toList.take b).drop a := by
 rw [ByteArray.data_extract, Array.toList_extract, List.extract_eq_take_drop, List.drop_take]
def idx (c : UInt8) (s : ByteArray) : Int := Lib.indexByte s.data.toList c
def fnd (c : UInt8) (s : ByteArray) : Bool := decide (0 ≤ idx c s)
def bef (c : UInt8) (s : ByteArray) : ByteArray := if 0 ≤ idx c s then s.extract 0 (idx c s).toNat else s
def aft (c : UInt8) (s : ByteArray) : ByteArray := if 0 ≤ idx c s then s.extract ((idx c s).toNat + 1) s.size else ⟨#[]⟩
theorem akw {c : UInt8} : ∀ {x : List UInt8} (y : List UInt8), (x.all fun b => !(b == c)) = true → Lib.indexByte (x ++ c :: y) c = x.length
 | [], y, _ => by simp [Lib.indexByte]
 | a :: x, y, h => by
   simp only [List.all_cons, Bool.and_eq_true] at h
   have hf : (a == c) = false := by simpa using h.1
   rw [List.cons_append, Lib.indexByte, hf, akw y h.2]
   have : ((x.length : Int) == -1) = false := by simp
   simp [this]
theorem al7 {c : UInt8} : ∀ {x : List UInt8}, (x.all fun b => !(b == c)) = true → Lib.indexByte x c = -1
 | [], _ => rfl
 | a :: x, h => by
   simp only [List.all_cons, Bool.and_eq_true] at h
   have hf : (a == c) = false := by simpa using h.1
   rw [Lib.indexByte, hf, al7 h.2]
   rfl
theorem amd {c : UInt8} : ∀ {l : List UInt8}, 0 ≤ Lib.indexByte l c → ∃ x y, l = x ++ c :: y ∧ (x.all fun b => !(b == c)) = true
 | [], h => by simp [Lib.indexByte] at h
 | a :: l, h => by
   by_cases e : a = c
   · exact ⟨[], l, by simp [e], rfl⟩
   · have hf : (a == c) = false := by simpa using e
     rw [Lib.indexByte, hf] at h
     by_cases e2 : Lib.indexByte l c = -1
     · simp [e2] at h
     · have hg := Lib.indexByte_ge l c
       obtain ⟨x, y, h1, h2⟩ := amd (l := l) (c := c) (by omega)
       refine ⟨a :: x, y, by rw [h1]; rfl, ?_⟩
       rw [List.all_cons, hf, h2]; rfl
def noB (c : UInt8) (s : ByteArray) : Bool := fp (fun b => !(b == c)) s
theorem q8 {c : UInt8} {x y : ByteArray} (h : noB c x = true) : idx c (x ++ (⟨#[c]⟩ ++ y)) = x.size ∧ bef c (x ++ (⟨#[c]⟩ ++ y)) = x ∧ aft c (x ++ (⟨#[c]⟩ ++ y)) = y ∧ fnd c (x ++ (⟨#[c]⟩ ++ y)) = true := by
 have e : (x ++ (⟨#[c]⟩ ++ y)).data.toList = x.data.toList ++ c :: y.data.toList := by rw [lu, lu]; rfl
 have hi : idx c (x ++ (⟨#[c]⟩ ++ y)) = x.size := by
   rw [idx, e, akw _ h, e8]
 have hp : (0 : Int) ≤ x.size := by omega
 refine ⟨hi, ?_, ?_, ?_⟩
 · rw [bef, hi, if_pos hp]
   apply ra
   rw [dx, e, Int.toNat_natCast, List.drop_zero]
   exact List.take_left' (e8 x)
 · rw [aft, hi, if_pos hp]
   apply ra
   have hl : (x ++ (⟨#[c]⟩ ++ y)).size = (x ++ (⟨#[c]⟩ ++ y)).data.toList.length := rfl
   rw [dx, Int.toNat_natCast, hl, List.take_length, e]
   have e2 : x.data.toList ++ c :: y.data.toList = (x.data.toList ++ [c]) ++ y.data.toList := by simp
   rw [e2]
   exact List.drop_left' (by rw [List.length_append, e8]; rfl)
 · rw [fnd, hi]; exact decide_eq_true hp
theorem apj {c : UInt8} {x : ByteArray} (h : noB c x = true) : idx c x = -1 ∧ bef c x = x ∧ aft c x = ⟨#[]⟩ ∧ fnd c x = false := by
 have hi : idx c x = -1 := al7 h
 refine ⟨hi, ?_, ?_, ?_⟩
 · rw [bef, hi]; rfl
 · rw [aft, hi]; rfl
 · rw [fnd, hi]; rfl
theorem yp {c : UInt8} {s : ByteArray} (h : fnd c s = true) : ∃ x y, s = x ++ (⟨#[c]⟩ ++ y) ∧ noB c x = true := by
 obtain ⟨x, y, h1, h2⟩ := amd (of_decide_eq_true h)
 refine ⟨⟨x.toArray⟩, ⟨y.toArray⟩, ?_, ?_⟩
 · apply ra
   rw [lu, lu, h1]
   simp
 · unfold noB fp; simpa using h2
theorem aq6 (c : UInt8) (s : ByteArray) : -1 ≤ idx c s ∧ idx c s < s.size := by
 refine ⟨Lib.indexByte_ge _ _, ?_⟩
 by_cases h : 0 ≤ idx c s
 · obtain ⟨x, y, e, hx⟩ := yp (c := c) (s := s) (decide_eq_true h)
   rw [e, (q8 hx).1]
   simp only [ByteArray.size_append]
   have : (⟨#[c]⟩ : ByteArray).size = 1 := rfl
   omega
 · omega
theorem rv (c : UInt8) (s : ByteArray) : (bef c s).size ≤ s.size := by
 have := aq6 c s
 unfold bef; split
 · rw [ByteArray.size_extract]; omega
 · exact Nat.le_refl _
theorem ajh (c : UInt8) (s : ByteArray) : (aft c s).size ≤ s.size := by
 unfold aft; split
 · rw [ByteArray.size_extract]; omega
 · exact Nat.zero_le _
theorem abf (s : ByteArray) (c : UInt8) : Ctr Tryz.prog 184 [.str s, .str ⟨#[c]⟩] [] (.int .i64 (idx c s)) [] := by
 refine ⟨Tryz.aw7, fun w vs m av hH hav hgl hsz ha => ?_⟩
 obtain ⟨v, u, rfl⟩ : ∃ v u, vs = #[v, u] := by
   match vs, hsz with
   | ⟨[v, u]⟩, _ => exact ⟨v, u, rfl⟩
 have h0 := ha 0 (by simp)
 have h1 := ha 1 (by simp)
 simp only [List.getElem_cons_zero, List.getElem_cons_succ] at h0 h1
 obtain rfl : v = .string s := by
   simp at h0; cases h0; rfl
 obtain rfl : u = .string ⟨#[c]⟩ := by
   simp at h1; cases h1; rfl
 refine (Tryz.stringslite_Index_one s c w).mono ?_
 rintro e w' ⟨rfl, rfl⟩
 exact ⟨_, m, rfl, Ext.refl _ _, ⟨fun i j ci cj h => by simp at h, fun id cs h => by simp at h, fun id cs h => by simp at h⟩, .int _ _, fun id cs h => by simp at h⟩
theorem ake (s : ByteArray) (c : UInt8) (hs : s.size ≤ 281474976710656) : Ctr Tryz.prog 124 [.str s, .str ⟨#[c]⟩] [] (.tup [.str (bef c s), .str (aft c s), .bool (fnd c s)]) [] := by
 have hi := aq6 c s
 refine Ctr.intro Tryz.mixed Tryz.func124 rfl Tryz.axl ?_
 simp -implicitDefEqProofs -dsimp only [go_sem, Tryz.ntmps124, Tryz.results124]
 (first | refine ak.at (abf s c) ⟨leA, leA, trivial⟩ ?_ | refine aj.at (abf s c) ⟨leA, leA, trivial⟩ ?_)
 simp -implicitDefEqProofs -dsimp only [go_sem]
 refine bd.split (fun h1 => ?_) (fun h1 => ?_) <;> simp -implicitDefEqProofs -dsimp only [go_sem, h1]
 · have h1' := of_decide_eq_true h1
   repeat (with_reducible refine ah ?_)
   have e1 : ((#[c] : Array UInt8).size : Int) = 1 := rfl
   have e2 : (idx c s + 1).toNat = (idx c s).toNat + 1 := by omega
   rw [e1, wrap_i64 (by omega) (by omega), e2]
   refine ⟨⟨by omega, by omega⟩, al.ax ?_ (by rfl)⟩
   rw [bef, aft, fnd, if_pos h1', if_pos h1', h1]
 · have h1' := of_decide_eq_false h1
   exact al.ax (by rw [bef, aft, fnd, if_neg h1', if_neg h1', h1]) (by rfl)
theorem ahz (s : ByteArray) (c : UInt8) (hs : s.size ≤ 281474976710656) : Ctr Tryz.prog 67 [.str s, .str ⟨#[c]⟩] [] (.tup [.str (bef c s), .str (aft c s), .bool (fnd c s)]) [] := by
 refine Ctr.intro Tryz.mixed Tryz.func67 rfl Tryz.a4s ?_
 simp -implicitDefEqProofs -dsimp only [go_sem, Tryz.ntmps67, Tryz.results67]
 (have ct := ake s c hs; (first | refine ak.at ct ⟨leA, leA, trivial⟩ ?_ | refine aj.at ct ⟨leA, leA, trivial⟩ ?_); clear ct)
 simp -implicitDefEqProofs -dsimp only [go_sem]
 exact al.ax rfl (by rfl)
def fm (c : UInt8) (s : ByteArray) : Nat → List ByteArray × Nat
 | 0 => ([], 0)
 | i + 1 => if h : i < s.size then (if (s[i]'h == c) = true then ((fm c s i).1 ++ [s.extract (fm c s i).2 i], i + 1) else fm c s i) else fm c s i
theorem ow {c : UInt8} {s : ByteArray} {i : Nat} (h : i < s.size) (hc : (s[i]'h == c) = true) : fm c s (i + 1) = ((fm c s i).1 ++ [s.extract (fm c s i).2 i], i + 1) := by
 rw [fm, dif_pos h, if_pos hc]
theorem r3 {c : UInt8} {s : ByteArray} {i : Nat} (h : i < s.size) (hc : (s[i]'h == c) = false) : fm c s (i + 1) = fm c s i := by
 rw [fm, dif_pos h, if_neg (by simp [hc])]
theorem adm (c : UInt8) (s : ByteArray) : ∀ i, i ≤ s.size → (fm c s i).2 ≤ i ∧ (fm c s i).1.length ≤ i
 | 0, _ => by simp [fm]
 | i + 1, h => by
   have ih := adm c s i (by omega)
   have hi : i < s.size := by omega
   cases hc : (s[i]'hi == c) with
   | true => rw [ow hi hc]; simp; omega
   | false => rw [r3 hi hc]; omega
def gw (c : UInt8) (s : ByteArray) : List ByteArray := (fm c s s.size).1 ++ [s.extract (fm c s s.size).2 s.size]
theorem aoi {c : UInt8} {s : ByteArray} {i : Nat} (h : i < s.size) (h0 : n9 (fun b => !(b == c)) s i = true) (hc : (s[i]'h == c) = true) : idx c s = i := by
 have hl : i < s.data.toList.length := h
 have e : s.data.toList = s.data.toList.take i ++ c :: s.data.toList.drop (i + 1) := by
   have : s.data.toList[i] = c := by rw [lj s h]; simpa using hc
   rw [← this, ← List.drop_eq_getElem_cons hl, List.take_append_drop]
 rw [idx, e, akw _ h0]
 simp
 omega
theorem afm (c : UInt8) (s : ByteArray) : ∀ i, i ≤ s.size → (n9 (fun b => !(b == c)) s i = true → fm c s i = ([], 0)) ∧ (n9 (fun b => !(b == c)) s i = false → fnd c s = true ∧ ∃ l, (fm c s i).1 = bef c s :: l)
 | 0, _ => ⟨fun _ => rfl, fun h => by simp [n9] at h⟩
 | i + 1, h => by
   have hi : i < s.size := by omega
   obtain ⟨h1, h2⟩ := afm c s i (by omega)
   cases hc : (s[i]'hi == c) with
   | true =>
     rw [ow hi hc, pw hi]
     refine ⟨fun g => by simp [hc] at g, fun _ => ?_⟩
     cases ha : n9 (fun b => !(b == c)) s i with
     | true =>
       have hx := aoi hi ha hc
       refine ⟨by rw [fnd, hx]; exact decide_eq_true (by omega), [], ?_⟩
       rw [h1 ha, bef, hx, if_pos (by omega)]
       simp
     | false =>
       obtain ⟨g1, l, g2⟩ := h2 ha
       refine ⟨g1, l ++ [s.extract (fm c s i).2 i], ?_⟩
       rw [g2]; rfl
   | false =>
     rw [r3 hi hc, pw hi]
     have e : (n9 (fun b => !(b == c)) s i && !(s[i]'hi == c)) = n9 (fun b => !(b == c)) s i := by rw [hc]; simp
     rw [e]
     exact ⟨h1, h2⟩
theorem se (c : UInt8) (s : ByteArray) : ∃ l, gw c s = bef c s :: l ∧ (l = [] ↔ fnd c s = false) := by
 obtain ⟨h1, h2⟩ := afm c s s.size (Nat.le_refl _)
 rw [wc] at h1 h2
 cases ha : fp (fun b => !(b == c)) s with
 | true =>
   obtain ⟨_, g2, _, g4⟩ := apj (c := c) (x := s) ha
   refine ⟨[], ?_, by simp [g4]⟩
   rw [gw, h1 ha, g2]
   simp
 | false =>
   obtain ⟨g1, l, g2⟩ := h2 ha
   refine ⟨l ++ [s.extract (fm c s s.size).2 s.size], by rw [gw, g2]; rfl, ?_⟩
   rw [g1]
   simp
theorem th (s : ByteArray) (c : UInt8) (hs : s.size ≤ 16777216) : Ctr Tryz.prog 73 [.str s, .int .u8 c.toNat] [] (.osl 0 0 (gw c s).length 1) [some (rows StringS.cs (gw c s))] := by
 refine Ctr.intro Tryz.mixed Tryz.func73 rfl Tryz.a27 ?_
 simp -implicitDefEqProofs -dsimp only [go_sem, Tryz.ntmps73, Tryz.results73]
 refine cw.intro (fun i : Nat => i ≤ s.size) (fun i => ⟨[.str s, .int .u8 c.toNat, .undef, .undef, .undef, .osl 0 0 (fm c s i).1.length 1, .int .i64 (fm c s i).2, .int .i64 i, .undef, .undef, .undef, .undef, .undef, .undef, .undef, .undef, .undef, .undef, .undef, .undef, .undef, .undef, .undef, .undef, .undef, .undef, .undef, .undef, .undef, .undef, .undef, .undef, .undef, .undef, .undef], [some (rows StringS.cs (fm c s i).1)], 0⟩) (fun i => s.size - i) 0 (Nat.zero_le _) ?_ (fun i hi => ?_)
 · refine br.cut (1) (by simp) (by simp) ?_ ?_
   · simp [LeC, LeV, ren, bm, fm]
   · simp [cb, db, fm, rows]
 have hbd := adm c s i hi
 simp -implicitDefEqProofs -dsimp only [go_sem]
 refine bd.split (fun h1 => ?_) (fun h1 => ?_)
 · simp -implicitDefEqProofs -dsimp only [go_sem, h1]
   have hi' : i < s.size := by simpa using h1
   refine ⟨⟨by omega, hi'⟩, ?_⟩
   have hbb : ((s[i]'hi') == c) = (((s[i]'hi').toNat : Int) == (c.toNat : Int)) := by
     rw [Bool.eq_iff_iff]; simp only [beq_iff_eq]
     constructor
     · intro g; rw [g]
     · intro g; exact UInt8.toNat_inj.1 (by omega)
   refine bd.split (fun h2 => ?_) (fun h2 => ?_) <;> simp -implicitDefEqProofs -dsimp only [go_sem, h2]
   · (repeat ((repeat1' (first | simp -implicitDefEqProofs -dsimp only [go_sem, ay, bb, Nat.mul_one] | simp -dsimp (disch := omega) only [wrap_i64])); repeat (with_reducible refine ah ?_)))
     refine ⟨i + 1, hi', ?_, by omega⟩
     refine br.cut (1) (by simp) (by simp) ?_ ?_
     · rw [ow hi' (by rw [hbb]; exact h2)]
       simp [LeC, LeV, ren, bm]
     · rw [ow hi' (by rw [hbb]; exact h2), ← dk]
       simp [cb, db, ren, bm, ae, cx, StringS.cs]
   · try (repeat1' (first | simp -implicitDefEqProofs -dsimp only [go_sem] | simp -dsimp (disch := omega) only [wrap_i64]))
     refine ⟨i + 1, hi', ?_, by omega⟩
     refine br.cut (1) (by simp) (by simp) ?_ ?_
     · rw [r3 hi' (by rw [hbb]; exact h2)]
       simp [LeC, LeV, ren, bm]
     · rw [r3 hi' (by rw [hbb]; exact h2)]
       simp [cb, db, ae]
 · simp -implicitDefEqProofs -dsimp only [go_sem, h1]
   have hi' : i = s.size := by simp at h1; omega
   subst hi'
   (repeat ((repeat1' (first | simp -implicitDefEqProofs -dsimp only [go_sem, ay, bb, Nat.mul_one] | simp -dsimp (disch := omega) only [wrap_i64])); repeat (with_reducible refine ah ?_)))
   have hl : (gw c s).length = (fm c s s.size).1.length + 1 := by simp [gw]
   rw [hl]
   refine al.pick [0] (by decide) (fun j hj => by omega) (.inl ?_) ?_
   · rfl
   · simp only [bc, List.map_cons, List.map_nil, bh, List.getElem?_cons_zero, gw, ← dk]
     simp [ren, bg, posOf, ae, StringS.cs, cx]
end Go.Proofs
end
