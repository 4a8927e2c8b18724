/-
  A part of the proof: texts put together by a program of the prover. Conditions: none.
-/
import Derived.Test.YtfdikfpnkgglkaaDoorZParseQuake4
import Derived.Test.YtfdikfpnkgglkaaDoorZParseQuake5
import Derived.Lib.AppendIntMem
set_option linter.unusedSimpArgs false
set_option linter.unusedVariables false
section
set_option maxRecDepth 100000
namespace Go.Proofs
open Go.Lv
theorem tab_pow10 {w : World} {av : Nat → Prop} (h : GL w av) : Lib.TabIs Tryd.prog w "internal/strconv.uint64pow10" .u64 Lib.pow10Tab := by
 obtain ⟨_, T, fr, h2⟩ := h.1 _ (List.mem_singleton.2 rfl)
 have hg : Tryd.prog.globalNamed "internal/strconv.uint64pow10" = some 5 := by kernel_rfl
 unfold Lib.TabIs World.var?
 rw [hg, Option.bind_some, h2]
 rfl
theorem gl_of_tabs {W : World} (h : Lib.TabIs Tryd.prog W "internal/strconv.uint64pow10" .u64 Lib.pow10Tab) (hv : ∀ p ∈ gvars, ¬ False ∧ ∃ C T fr v, W.heap[p.1]? = some (.cells C T fr) ∧ C[0]? = some v ∧ gvOk p.2 v) : GL W (fun _ => False) := by
 refine ⟨fun p hp => ?_, hv⟩
 have hp' := List.mem_singleton.1 hp
 subst hp'
 have hg : Tryd.prog.globalNamed "internal/strconv.uint64pow10" = some 5 := by kernel_rfl
 unfold Lib.TabIs World.var? at h
 rw [hg, Option.bind_some] at h
 dsimp only at h ⊢
 split at h
 · rename_i cs T fr hc
   refine ⟨fun h => h, T, fr, ?_⟩
   rw [hc]
   simp only [Option.some.injEq] at h
   subst h
   rfl
 · cases h
theorem itoaLib_ok (n : Int) (hn : i64R n) : Ctr Tryd.prog 61 [.int .i64 n] [] (.str (num n)) [] := by
 refine ⟨Tryd.okF61, fun w vs m av hH hav hgl hsz ha => ?_⟩
 obtain ⟨v, rfl⟩ : ∃ v, vs = #[v] := by
   match vs, hsz with
   | ⟨[v]⟩, _ => exact ⟨v, rfl⟩
 have h0 := ha 0 (by simp)
 simp only [List.getElem_cons_zero] at h0
 have hv : v = .int .i64 n := by
   have := rv_int h0
   simpa using this
 subst hv
 refine (Tryd.strconv_Itoa n hn.1 hn.2 w (tab_pow10 hgl)).mono ?_
 rintro e w' ⟨rfl, k, os, rfl⟩
 refine ⟨_, m, rfl, ?_, ⟨fun i j ci cj h => by simp at h, fun id cs h => by simp at h, fun id cs h => by simp at h⟩, .str _, fun id cs h => by simp at h⟩
 have hb : ∀ g, g < w.heap.size → (Sort.grow (w.drewN k) os).heap[g]? = w.heap[g]? := fun g hg => Lib.heap_grow_old w k os g hg
 exact ⟨rfl, rfl, rfl, Lib.size_grow w k os, fun g hg _ => hb g hg, fun g hg => Nat.le_of_eq (rowSize_of_block (hb g hg)).symm⟩
theorem itoa_ok (n : Int) (hn : i64R n) : Ctr Tryd.prog 49 [.int .i64 n] [] (.str (num n)) [] := by
 refine Ctr.intro Tryd.mixed Tryd.func49 rfl Tryd.okF49 ?_
 simp -implicitDefEqProofs -dsimp only [go_sem, Tryd.ntmps49, Tryd.results49]
 (first | refine callT.at (itoaLib_ok n hn) ⟨leA, trivial⟩ ?_ | refine callS.at (itoaLib_ok n hn) ⟨leA, trivial⟩ ?_)
 simp -implicitDefEqProofs -dsimp only [go_sem]
 exact WeakR.drop' rfl (by rfl)
theorem l1Num_nat : ∀ (k u : Nat), u < k → u ≤ 9223372036854775807 → Ctr Tryd.prog 21 [.int .i64 u] [] (.str (num u)) [] := by
 intro k
 induction k with
 | zero => intro u h; omega
 | succ k ih =>
   intro u hu hb
   refine Ctr.intro Tryd.mixed Tryd.func21 rfl Tryd.okF21 ?_
   simp -implicitDefEqProofs -dsimp only [go_sem, Tryd.ntmps21, Tryd.results21]
   refine condT.split (fun h => absurd h (by simp)) (fun h => ?_)
   simp -implicitDefEqProofs -dsimp only [go_sem, h]
   refine condT.split (fun h2 => ?_) (fun h2 => ?_)
   · have hlt : u < 10 := by simp at h2; omega
     (repeat ((repeat1' (first | simp -implicitDefEqProofs -dsimp only [go_sem, h2] | simp -dsimp (disch := omega) only [wrap_i64])); repeat (with_reducible refine sideA ?_)))
     have e : ((u : Int) + 1).toNat = u + 1 := by omega
     have e2 : ((#[48, 49, 50, 51, 52, 53, 54, 55, 56, 57] : Array UInt8).size : Int) = 10 := rfl
     rw [e, e2]
     refine ⟨⟨by omega, by omega, by omega⟩, WeakR.drop' ?_ (by rfl)⟩
     rw [num_one hlt, digits]
   · have hge : ¬ u < 10 := by simp at h2; omega
     have t1 : Int.tdiv (u : Int) 10 = ((u / 10 : Nat) : Int) := rfl
     have t2 : Int.tmod (u : Int) 10 = ((u % 10 : Nat) : Int) := rfl
     (repeat ((repeat1' (first | simp -implicitDefEqProofs -dsimp only [go_sem, h2, t1, t2] | simp -dsimp (disch := omega) only [wrap_i64])); repeat (with_reducible refine sideA ?_)))
     (have ct := ih (u / 10) (by omega) (by omega); (first | refine callT.at ct ⟨leA, trivial⟩ ?_ | refine callS.at ct ⟨leA, trivial⟩ ?_); clear ct)
     have e : (((u % 10 : Nat) : Int) + 1).toNat = u % 10 + 1 := by omega
     have e2 : ((#[48, 49, 50, 51, 52, 53, 54, 55, 56, 57] : Array UInt8).size : Int) = 10 := rfl
     have hs := num_size' (n := ((u / 10 : Nat) : Int)) (by omega) (by omega)
     have hd : ({ data := #[48, 49, 50, 51, 52, 53, 54, 55, 56, 57] } : ByteArray).extract (u % 10) (u % 10 + 1) = ⟨#[UInt8.ofNat (48 + u % 10)]⟩ := digit_at (u % 10) (by omega)
     (repeat ((repeat1' (first | simp -implicitDefEqProofs -dsimp only [go_sem, e, e2, hd, ba_size] | simp -dsimp (disch := omega) only [wrap_i64])); repeat (with_reducible refine sideA ?_)))
     refine ⟨by simp only [List.size_toArray, List.length_cons, List.length_nil]; omega, WeakR.drop' ?_ (by rfl)⟩
     rw [num_more hge, digit_at (u % 10) (by omega)]
theorem l1Num_ok (n : Int) (h0 : -9223372036854775807 ≤ n) (h1 : n ≤ 9223372036854775807) : Ctr Tryd.prog 21 [.int .i64 n] [] (.str (num n)) [] := by
 rcases Int.lt_or_le n 0 with hn | hn
 · obtain ⟨u, rfl⟩ : ∃ u : Nat, n = -(u : Int) := ⟨n.natAbs, by omega⟩
   refine Ctr.intro Tryd.mixed Tryd.func21 rfl Tryd.okF21 ?_
   simp -implicitDefEqProofs -dsimp only [go_sem, Tryd.ntmps21, Tryd.results21]
   refine condT.split (fun h => ?_) (fun h => absurd h (by simp; omega))
   have e : IntKind.i64.wrap (0 - -(u : Int)) = (u : Int) := by rw [wrap_i64 (by omega) (by omega)]; omega
   simp -implicitDefEqProofs -dsimp only [go_sem, h, e]
   (have ct := l1Num_nat (u + 1) u (by omega) (by omega); (first | refine callT.at ct ⟨leA, trivial⟩ ?_ | refine callS.at ct ⟨leA, trivial⟩ ?_); clear ct)
   have hs := num_size' (n := (u : Int)) (by omega) (by omega)
   simp -implicitDefEqProofs -dsimp only [go_sem, ba_size]
   refine ⟨by simp; omega, WeakR.drop' ?_ (by rfl)⟩
   rw [num_neg (by omega)]
 · obtain ⟨u, rfl⟩ : ∃ u : Nat, n = u := ⟨n.toNat, by omega⟩
   exact l1Num_nat (u + 1) u (by omega) (by omega)
end Go.Proofs
end
section
set_option maxRecDepth 100000
set_option maxHeartbeats 2000000
namespace Go.Proofs
open Go.Lv
theorem ba_nil' (x : ByteArray) : x ++ (⟨#[]⟩ : ByteArray) = x := by
 apply ByteArray.ext
 simp
def qSign (r : QuakeRow) : ByteArray := if r.Size < 0 then ⟨#[45]⟩ else ⟨#[]⟩
def qHund (n : Nat) : ByteArray := if n % 100 < 10 then ⟨#[48]⟩ ++ num ((n % 100 : Nat) : Int) else num ((n % 100 : Nat) : Int)
def qHead (r : QuakeRow) : ByteArray := ((((((((⟨#[35]⟩ ++ num r.Id) ++ ⟨#[32, 116]⟩) ++ num r.Tick) ++ ⟨#[32, 97, 116, 32]⟩) ++ num r.X) ++ ⟨#[44]⟩) ++ num r.Y) ++ ⟨#[32, 100, 101, 101, 112, 32]⟩) ++ num r.Deep
def qGrade (g : Int) : ByteArray := ⟨#[UInt8.ofNat (64 + g.toNat)]⟩
def quakeLine (r : QuakeRow) : ByteArray := ((((((qHead r ++ ⟨#[32, 77]⟩) ++ qSign r) ++ num ((r.Size.natAbs / 100 : Nat) : Int)) ++ ⟨#[46]⟩) ++ qHund r.Size.natAbs) ++ ⟨#[32]⟩) ++ qGrade r.Grade
theorem qHund_eq (n : Nat) : qHund n = num ((n / 10 % 10 : Nat) : Int) ++ num ((n % 10 : Nat) : Int) := by
 unfold qHund
 have h2 : n % 100 % 10 = n % 10 := by omega
 have h3 : n % 100 / 10 = n / 10 % 10 := by omega
 split
 · rename_i h
   have h1 : n / 10 % 10 = 0 := by omega
   have h4 : n % 100 = n % 10 := by omega
   rw [h1, h4, num_one (u := 0) (by omega), digit_at 0 (by omega)]
   rfl
 · rename_i h
   rw [num_more h, h2, h3, ← num_one (by omega)]
theorem qHund_size (n : Nat) : (qHund n).size ≤ 42 := by
 rw [qHund_eq, ByteArray.size_append]
 have := num_size' (n := ((n / 10 % 10 : Nat) : Int)) (by omega) (by omega)
 have := num_size' (n := ((n % 10 : Nat) : Int)) (by omega) (by omega)
 omega
theorem qr_nums {r : QuakeRow} (h : qrB r = true) : (num r.Id).size ≤ 21 ∧ (num r.Tick).size ≤ 21 ∧ (num r.X).size ≤ 21 ∧ (num r.Y).size ≤ 21 ∧ (num r.Deep).size ≤ 21 ∧ (num ((r.Size.natAbs / 100 : Nat) : Int)).size ≤ 21 := by
 have := qrB_iff.1 h
 exact ⟨num_size' (by omega) (by omega), num_size' (by omega) (by omega), num_size' (by omega) (by omega), num_size' (by omega) (by omega), num_size' (by omega) (by omega), num_size' (by omega) (by omega)⟩
theorem qSign_size (r : QuakeRow) : (qSign r).size ≤ 1 := by unfold qSign; split <;> simp [ba_size]
theorem qHead_size {r : QuakeRow} (h : qrB r = true) : (qHead r).size ≤ 200 := by
 have := qr_nums h
 unfold qHead
 simp only [ByteArray.size_append, ba_size, List.size_toArray, List.length_cons, List.length_nil]; omega
theorem grade_enc {g : Int} (h : 1 ≤ g ∧ g ≤ 4) : Utf8.encode (IntKind.i32.wrap (65 + g - 1)) = qGrade g := by
 have : g = 1 ∨ g = 2 ∨ g = 3 ∨ g = 4 := by omega
 rcases this with rfl | rfl | rfl | rfl <;> rfl
theorem quakeRowLine_ok (r : QuakeRow) (h : qrB r = true) : Ctr Tryd.prog 33 [r.v] [] (.str (quakeLine r)) [] := by
 have hv := qrB_iff.1 h
 have hs := qr_nums h
 have hz1 := num_size' (n := ((r.Size.natAbs % 100 : Nat) : Int)) (by omega) (by omega)
 have hz2 := qHund_size r.Size.natAbs
 have hz3 := qSign_size r
 have hz4 := qHead_size h
 have t1 : Int.tdiv (r.Size.natAbs : Int) 100 = ((r.Size.natAbs / 100 : Nat) : Int) := rfl
 have t2 : Int.tmod (r.Size.natAbs : Int) 100 = ((r.Size.natAbs % 100 : Nat) : Int) := rfl
 refine Ctr.intro Tryd.mixed Tryd.func33 rfl Tryd.okF33 ?_
 simp -implicitDefEqProofs -dsimp only [go_sem, Tryd.ntmps33, Tryd.results33]
 simp -implicitDefEqProofs -dsimp only [go_sem, QuakeRow.v]
 (have ct := abs_ok r.Size (by omega) (by omega); (first | refine callT.at ct ⟨leA, trivial⟩ ?_ | refine callS.at ct ⟨leA, trivial⟩ ?_); clear ct)
 simp -implicitDefEqProofs -dsimp only [go_sem]
 refine condT.split (fun h1 => ?_) (fun h1 => ?_) <;> simp -implicitDefEqProofs -dsimp only [go_sem, h1, t2]
 · repeat (first | ((have ct := itoa_ok ((r.Size.natAbs % 100 : Nat) : Int) ⟨by omega, by omega⟩; (first | refine callT.at ct ⟨leA, trivial⟩ ?_ | refine callS.at ct ⟨leA, trivial⟩ ?_); clear ct); simp -implicitDefEqProofs -dsimp only [go_sem, t2]) | (with_reducible refine And.intro (by first | omega | (show drawOk _ = true; kernel_rfl) | (simp only [ByteArray.size_append, ba_size, List.size_toArray, List.length_cons, List.length_nil]; omega)) ?_; try (repeat1' (first | simp -implicitDefEqProofs -dsimp only [go_sem, t2] | simp -dsimp (disch := omega) only [wrap_i64]))))
   have e1 : qSign r = ⟨#[45]⟩ := if_pos (by simpa using h1)
   refine condT.split (fun h2 => ?_) (fun h2 => ?_) <;> simp -implicitDefEqProofs -dsimp only [go_sem, h2]
   · have e2 : qHund r.Size.natAbs = ⟨#[48]⟩ ++ num ((r.Size.natAbs % 100 : Nat) : Int) := if_pos (by simp at h2; omega)
     repeat (first | ((have ct := itoa_ok r.Id ⟨by omega, by omega⟩; (first | refine callT.at ct ⟨leA, trivial⟩ ?_ | refine callS.at ct ⟨leA, trivial⟩ ?_); clear ct); simp -implicitDefEqProofs -dsimp only [go_sem, t1, t2]) | ((have ct := itoa_ok r.Tick ⟨by omega, by omega⟩; (first | refine callT.at ct ⟨leA, trivial⟩ ?_ | refine callS.at ct ⟨leA, trivial⟩ ?_); clear ct); simp -implicitDefEqProofs -dsimp only [go_sem, t1, t2]) | ((have ct := itoa_ok r.X ⟨by omega, by omega⟩; (first | refine callT.at ct ⟨leA, trivial⟩ ?_ | refine callS.at ct ⟨leA, trivial⟩ ?_); clear ct); simp -implicitDefEqProofs -dsimp only [go_sem, t1, t2]) | ((have ct := itoa_ok r.Y ⟨by omega, by omega⟩; (first | refine callT.at ct ⟨leA, trivial⟩ ?_ | refine callS.at ct ⟨leA, trivial⟩ ?_); clear ct); simp -implicitDefEqProofs -dsimp only [go_sem, t1, t2]) | ((have ct := itoa_ok r.Deep ⟨by omega, by omega⟩; (first | refine callT.at ct ⟨leA, trivial⟩ ?_ | refine callS.at ct ⟨leA, trivial⟩ ?_); clear ct); simp -implicitDefEqProofs -dsimp only [go_sem, t1, t2]) | ((have ct := itoa_ok ((r.Size.natAbs / 100 : Nat) : Int) ⟨by omega, by omega⟩; (first | refine callT.at ct ⟨leA, trivial⟩ ?_ | refine callS.at ct ⟨leA, trivial⟩ ?_); clear ct); simp -implicitDefEqProofs -dsimp only [go_sem, t1, t2]) | (with_reducible refine And.intro (by first | omega | (show drawOk _ = true; kernel_rfl) | (simp only [ByteArray.size_append, ba_size, List.size_toArray, List.length_cons, List.length_nil]; omega)) ?_; try (repeat1' (first | simp -implicitDefEqProofs -dsimp only [go_sem, t1, t2] | simp -dsimp (disch := omega) only [wrap_i64]))))
     rw [grade_enc (by omega)]
     refine ⟨by simp only [qGrade, ByteArray.size_append, ba_size, List.size_toArray, List.length_cons, List.length_nil]; omega, WeakR.drop' ?_ (by rfl)⟩
     rw [quakeLine, qHead, e1, e2]
   · have e2 : qHund r.Size.natAbs = num ((r.Size.natAbs % 100 : Nat) : Int) := if_neg (by simp at h2; omega)
     repeat (first | ((have ct := itoa_ok r.Id ⟨by omega, by omega⟩; (first | refine callT.at ct ⟨leA, trivial⟩ ?_ | refine callS.at ct ⟨leA, trivial⟩ ?_); clear ct); simp -implicitDefEqProofs -dsimp only [go_sem, t1, t2]) | ((have ct := itoa_ok r.Tick ⟨by omega, by omega⟩; (first | refine callT.at ct ⟨leA, trivial⟩ ?_ | refine callS.at ct ⟨leA, trivial⟩ ?_); clear ct); simp -implicitDefEqProofs -dsimp only [go_sem, t1, t2]) | ((have ct := itoa_ok r.X ⟨by omega, by omega⟩; (first | refine callT.at ct ⟨leA, trivial⟩ ?_ | refine callS.at ct ⟨leA, trivial⟩ ?_); clear ct); simp -implicitDefEqProofs -dsimp only [go_sem, t1, t2]) | ((have ct := itoa_ok r.Y ⟨by omega, by omega⟩; (first | refine callT.at ct ⟨leA, trivial⟩ ?_ | refine callS.at ct ⟨leA, trivial⟩ ?_); clear ct); simp -implicitDefEqProofs -dsimp only [go_sem, t1, t2]) | ((have ct := itoa_ok r.Deep ⟨by omega, by omega⟩; (first | refine callT.at ct ⟨leA, trivial⟩ ?_ | refine callS.at ct ⟨leA, trivial⟩ ?_); clear ct); simp -implicitDefEqProofs -dsimp only [go_sem, t1, t2]) | ((have ct := itoa_ok ((r.Size.natAbs / 100 : Nat) : Int) ⟨by omega, by omega⟩; (first | refine callT.at ct ⟨leA, trivial⟩ ?_ | refine callS.at ct ⟨leA, trivial⟩ ?_); clear ct); simp -implicitDefEqProofs -dsimp only [go_sem, t1, t2]) | (with_reducible refine And.intro (by first | omega | (show drawOk _ = true; kernel_rfl) | (simp only [ByteArray.size_append, ba_size, List.size_toArray, List.length_cons, List.length_nil]; omega)) ?_; try (repeat1' (first | simp -implicitDefEqProofs -dsimp only [go_sem, t1, t2] | simp -dsimp (disch := omega) only [wrap_i64]))))
     rw [grade_enc (by omega)]
     refine ⟨by simp only [qGrade, ByteArray.size_append, ba_size, List.size_toArray, List.length_cons, List.length_nil]; omega, WeakR.drop' ?_ (by rfl)⟩
     rw [quakeLine, qHead, e1, e2]
 · repeat (first | ((have ct := itoa_ok ((r.Size.natAbs % 100 : Nat) : Int) ⟨by omega, by omega⟩; (first | refine callT.at ct ⟨leA, trivial⟩ ?_ | refine callS.at ct ⟨leA, trivial⟩ ?_); clear ct); simp -implicitDefEqProofs -dsimp only [go_sem, t2]) | (with_reducible refine And.intro (by first | omega | (show drawOk _ = true; kernel_rfl) | (simp only [ByteArray.size_append, ba_size, List.size_toArray, List.length_cons, List.length_nil]; omega)) ?_; try (repeat1' (first | simp -implicitDefEqProofs -dsimp only [go_sem, t2] | simp -dsimp (disch := omega) only [wrap_i64]))))
   have e1 : qSign r = ⟨#[]⟩ := if_neg (by simpa using h1)
   refine condT.split (fun h2 => ?_) (fun h2 => ?_) <;> simp -implicitDefEqProofs -dsimp only [go_sem, h2]
   · have e2 : qHund r.Size.natAbs = ⟨#[48]⟩ ++ num ((r.Size.natAbs % 100 : Nat) : Int) := if_pos (by simp at h2; omega)
     repeat (first | ((have ct := itoa_ok r.Id ⟨by omega, by omega⟩; (first | refine callT.at ct ⟨leA, trivial⟩ ?_ | refine callS.at ct ⟨leA, trivial⟩ ?_); clear ct); simp -implicitDefEqProofs -dsimp only [go_sem, t1, t2]) | ((have ct := itoa_ok r.Tick ⟨by omega, by omega⟩; (first | refine callT.at ct ⟨leA, trivial⟩ ?_ | refine callS.at ct ⟨leA, trivial⟩ ?_); clear ct); simp -implicitDefEqProofs -dsimp only [go_sem, t1, t2]) | ((have ct := itoa_ok r.X ⟨by omega, by omega⟩; (first | refine callT.at ct ⟨leA, trivial⟩ ?_ | refine callS.at ct ⟨leA, trivial⟩ ?_); clear ct); simp -implicitDefEqProofs -dsimp only [go_sem, t1, t2]) | ((have ct := itoa_ok r.Y ⟨by omega, by omega⟩; (first | refine callT.at ct ⟨leA, trivial⟩ ?_ | refine callS.at ct ⟨leA, trivial⟩ ?_); clear ct); simp -implicitDefEqProofs -dsimp only [go_sem, t1, t2]) | ((have ct := itoa_ok r.Deep ⟨by omega, by omega⟩; (first | refine callT.at ct ⟨leA, trivial⟩ ?_ | refine callS.at ct ⟨leA, trivial⟩ ?_); clear ct); simp -implicitDefEqProofs -dsimp only [go_sem, t1, t2]) | ((have ct := itoa_ok ((r.Size.natAbs / 100 : Nat) : Int) ⟨by omega, by omega⟩; (first | refine callT.at ct ⟨leA, trivial⟩ ?_ | refine callS.at ct ⟨leA, trivial⟩ ?_); clear ct); simp -implicitDefEqProofs -dsimp only [go_sem, t1, t2]) | (with_reducible refine And.intro (by first | omega | (show drawOk _ = true; kernel_rfl) | (simp only [ByteArray.size_append, ba_size, List.size_toArray, List.length_cons, List.length_nil]; omega)) ?_; try (repeat1' (first | simp -implicitDefEqProofs -dsimp only [go_sem, t1, t2] | simp -dsimp (disch := omega) only [wrap_i64]))))
     rw [grade_enc (by omega)]
     refine ⟨by simp only [qGrade, ByteArray.size_append, ba_size, List.size_toArray, List.length_cons, List.length_nil]; omega, WeakR.drop' ?_ (by rfl)⟩
     rw [quakeLine, qHead, e1, e2]
   · have e2 : qHund r.Size.natAbs = num ((r.Size.natAbs % 100 : Nat) : Int) := if_neg (by simp at h2; omega)
     repeat (first | ((have ct := itoa_ok r.Id ⟨by omega, by omega⟩; (first | refine callT.at ct ⟨leA, trivial⟩ ?_ | refine callS.at ct ⟨leA, trivial⟩ ?_); clear ct); simp -implicitDefEqProofs -dsimp only [go_sem, t1, t2]) | ((have ct := itoa_ok r.Tick ⟨by omega, by omega⟩; (first | refine callT.at ct ⟨leA, trivial⟩ ?_ | refine callS.at ct ⟨leA, trivial⟩ ?_); clear ct); simp -implicitDefEqProofs -dsimp only [go_sem, t1, t2]) | ((have ct := itoa_ok r.X ⟨by omega, by omega⟩; (first | refine callT.at ct ⟨leA, trivial⟩ ?_ | refine callS.at ct ⟨leA, trivial⟩ ?_); clear ct); simp -implicitDefEqProofs -dsimp only [go_sem, t1, t2]) | ((have ct := itoa_ok r.Y ⟨by omega, by omega⟩; (first | refine callT.at ct ⟨leA, trivial⟩ ?_ | refine callS.at ct ⟨leA, trivial⟩ ?_); clear ct); simp -implicitDefEqProofs -dsimp only [go_sem, t1, t2]) | ((have ct := itoa_ok r.Deep ⟨by omega, by omega⟩; (first | refine callT.at ct ⟨leA, trivial⟩ ?_ | refine callS.at ct ⟨leA, trivial⟩ ?_); clear ct); simp -implicitDefEqProofs -dsimp only [go_sem, t1, t2]) | ((have ct := itoa_ok ((r.Size.natAbs / 100 : Nat) : Int) ⟨by omega, by omega⟩; (first | refine callT.at ct ⟨leA, trivial⟩ ?_ | refine callS.at ct ⟨leA, trivial⟩ ?_); clear ct); simp -implicitDefEqProofs -dsimp only [go_sem, t1, t2]) | (with_reducible refine And.intro (by first | omega | (show drawOk _ = true; kernel_rfl) | (simp only [ByteArray.size_append, ba_size, List.size_toArray, List.length_cons, List.length_nil]; omega)) ?_; try (repeat1' (first | simp -implicitDefEqProofs -dsimp only [go_sem, t1, t2] | simp -dsimp (disch := omega) only [wrap_i64]))))
     rw [grade_enc (by omega)]
     refine ⟨by simp only [qGrade, ByteArray.size_append, ba_size, List.size_toArray, List.length_cons, List.length_nil]; omega, WeakR.drop' ?_ (by rfl)⟩
     rw [quakeLine, qHead, e1, e2]
theorem l24Line_neg (r : QuakeRow) (h : qrB r = true) (hn : r.Size < 0) : Ctr Tryd.prog 10 [r.v] [] (.str (quakeLine r)) [] := by
 have q1 : qGrade 1 = ⟨#[65]⟩ := rfl
 have q2 : qGrade 2 = ⟨#[66]⟩ := rfl
 have q3 : qGrade 3 = ⟨#[67]⟩ := rfl
 have q4 : qGrade 4 = ⟨#[68]⟩ := rfl
 have hv := qrB_iff.1 h
 have hs := qr_nums h
 have hz2 := qHund_size r.Size.natAbs
 have hz4 := qHead_size h
 have hz5 := num_size' (n := ((r.Size.natAbs / 10 % 10 : Nat) : Int)) (by omega) (by omega)
 have hz6 := num_size' (n := ((r.Size.natAbs % 10 : Nat) : Int)) (by omega) (by omega)
 have t1 : Int.tdiv (r.Size.natAbs : Int) 100 = ((r.Size.natAbs / 100 : Nat) : Int) := rfl
 have t2 : Int.tmod ((r.Size.natAbs / 10 : Nat) : Int) 10 = ((r.Size.natAbs / 10 % 10 : Nat) : Int) := rfl
 have t3 : Int.tmod (r.Size.natAbs : Int) 10 = ((r.Size.natAbs % 10 : Nat) : Int) := rfl
 have t4 : Int.tdiv (r.Size.natAbs : Int) 10 = ((r.Size.natAbs / 10 : Nat) : Int) := rfl
 have hg : r.Grade = 1 ∨ r.Grade = 2 ∨ r.Grade = 3 ∨ r.Grade = 4 := by omega
 have fin : ∀ g : Int, r.Grade = g → quakeLine r = ((((((((qHead r ++ ⟨#[32, 77]⟩) ++ qSign r) ++ num ((r.Size.natAbs / 100 : Nat) : Int)) ++ ⟨#[46]⟩) ++ num ((r.Size.natAbs / 10 % 10 : Nat) : Int)) ++ num ((r.Size.natAbs % 10 : Nat) : Int)) ++ ⟨#[32]⟩) ++ qGrade g) := by
   intro g e
   rw [quakeLine, qHund_eq, e]
   simp only [ByteArray.append_assoc]
 refine Ctr.intro Tryd.mixed Tryd.func10 rfl Tryd.okF10 ?_
 simp -implicitDefEqProofs -dsimp only [go_sem, Tryd.ntmps10, Tryd.results10]
 simp -implicitDefEqProofs -dsimp only [go_sem, QuakeRow.v]
 repeat (first | ((have ct := l1Num_ok r.Id (by omega) (by omega); (first | refine callT.at ct ⟨leA, trivial⟩ ?_ | refine callS.at ct ⟨leA, trivial⟩ ?_); clear ct); simp -implicitDefEqProofs -dsimp only [go_sem]) | ((have ct := l1Num_ok r.Tick (by omega) (by omega); (first | refine callT.at ct ⟨leA, trivial⟩ ?_ | refine callS.at ct ⟨leA, trivial⟩ ?_); clear ct); simp -implicitDefEqProofs -dsimp only [go_sem]) | ((have ct := l1Num_ok r.X (by omega) (by omega); (first | refine callT.at ct ⟨leA, trivial⟩ ?_ | refine callS.at ct ⟨leA, trivial⟩ ?_); clear ct); simp -implicitDefEqProofs -dsimp only [go_sem]) | ((have ct := l1Num_ok r.Y (by omega) (by omega); (first | refine callT.at ct ⟨leA, trivial⟩ ?_ | refine callS.at ct ⟨leA, trivial⟩ ?_); clear ct); simp -implicitDefEqProofs -dsimp only [go_sem]) | ((have ct := l1Num_ok r.Deep (by omega) (by omega); (first | refine callT.at ct ⟨leA, trivial⟩ ?_ | refine callS.at ct ⟨leA, trivial⟩ ?_); clear ct); simp -implicitDefEqProofs -dsimp only [go_sem]) | (with_reducible refine And.intro (by first | omega | (show drawOk _ = true; kernel_rfl) | (simp only [ByteArray.size_append, ba_size, List.size_toArray, List.length_cons, List.length_nil]; omega)) ?_; try (repeat1' (first | simp -implicitDefEqProofs -dsimp only [go_sem] | simp -dsimp (disch := omega) only [wrap_i64]))))
 refine condT.split (fun h1 => ?_) (fun h1 => absurd hn (by simpa using h1)) <;> simp -implicitDefEqProofs -dsimp only [go_sem, h1]
 have e0 : (0 : Int) - r.Size = (r.Size.natAbs : Int) := by omega
 have e1 : qSign r = ⟨#[45]⟩ := if_pos hn
 try (repeat1' (first | simp -implicitDefEqProofs -dsimp only [go_sem, e0] | simp -dsimp (disch := omega) only [wrap_i64]))
 repeat (first | ((have ct := l1Num_ok ((r.Size.natAbs / 100 : Nat) : Int) (by omega) (by omega); (first | refine callT.at ct ⟨leA, trivial⟩ ?_ | refine callS.at ct ⟨leA, trivial⟩ ?_); clear ct); simp -implicitDefEqProofs -dsimp only [go_sem, t1, t2, t3, t4, e0]) | ((have ct := l1Num_ok ((r.Size.natAbs / 10 % 10 : Nat) : Int) (by omega) (by omega); (first | refine callT.at ct ⟨leA, trivial⟩ ?_ | refine callS.at ct ⟨leA, trivial⟩ ?_); clear ct); simp -implicitDefEqProofs -dsimp only [go_sem, t1, t2, t3, t4, e0]) | ((have ct := l1Num_ok ((r.Size.natAbs % 10 : Nat) : Int) (by omega) (by omega); (first | refine callT.at ct ⟨leA, trivial⟩ ?_ | refine callS.at ct ⟨leA, trivial⟩ ?_); clear ct); simp -implicitDefEqProofs -dsimp only [go_sem, t1, t2, t3, t4, e0]) | (with_reducible refine And.intro (by first | omega | (show drawOk _ = true; kernel_rfl) | (simp only [ByteArray.size_append, ba_size, List.size_toArray, List.length_cons, List.length_nil]; omega)) ?_; try (repeat1' (first | simp -implicitDefEqProofs -dsimp only [go_sem, t1, t2, t3, t4, e0] | simp -dsimp (disch := omega) only [wrap_i64]))))
 rcases hg with hg | hg | hg | hg <;> simp -implicitDefEqProofs -dsimp only [go_sem, hg]
 all_goals (refine ⟨by simp only [ByteArray.size_append, ba_size, List.size_toArray, List.length_cons, List.length_nil]; omega, WeakR.drop' ?_ (by rfl)⟩; simp only [fin _ hg, qHead, e1, q1, q2, q3, q4])
theorem l24Line_pos (r : QuakeRow) (h : qrB r = true) (hn : 0 ≤ r.Size) : Ctr Tryd.prog 10 [r.v] [] (.str (quakeLine r)) [] := by
 have q1 : qGrade 1 = ⟨#[65]⟩ := rfl
 have q2 : qGrade 2 = ⟨#[66]⟩ := rfl
 have q3 : qGrade 3 = ⟨#[67]⟩ := rfl
 have q4 : qGrade 4 = ⟨#[68]⟩ := rfl
 have hv := qrB_iff.1 h
 have hs := qr_nums h
 have hz2 := qHund_size r.Size.natAbs
 have hz4 := qHead_size h
 have hz5 := num_size' (n := ((r.Size.natAbs / 10 % 10 : Nat) : Int)) (by omega) (by omega)
 have hz6 := num_size' (n := ((r.Size.natAbs % 10 : Nat) : Int)) (by omega) (by omega)
 have t1 : Int.tdiv (r.Size.natAbs : Int) 100 = ((r.Size.natAbs / 100 : Nat) : Int) := rfl
 have t2 : Int.tmod ((r.Size.natAbs / 10 : Nat) : Int) 10 = ((r.Size.natAbs / 10 % 10 : Nat) : Int) := rfl
 have t3 : Int.tmod (r.Size.natAbs : Int) 10 = ((r.Size.natAbs % 10 : Nat) : Int) := rfl
 have t4 : Int.tdiv (r.Size.natAbs : Int) 10 = ((r.Size.natAbs / 10 : Nat) : Int) := rfl
 have hg : r.Grade = 1 ∨ r.Grade = 2 ∨ r.Grade = 3 ∨ r.Grade = 4 := by omega
 have fin : ∀ g : Int, r.Grade = g → quakeLine r = ((((((((qHead r ++ ⟨#[32, 77]⟩) ++ qSign r) ++ num ((r.Size.natAbs / 100 : Nat) : Int)) ++ ⟨#[46]⟩) ++ num ((r.Size.natAbs / 10 % 10 : Nat) : Int)) ++ num ((r.Size.natAbs % 10 : Nat) : Int)) ++ ⟨#[32]⟩) ++ qGrade g) := by
   intro g e
   rw [quakeLine, qHund_eq, e]
   simp only [ByteArray.append_assoc]
 refine Ctr.intro Tryd.mixed Tryd.func10 rfl Tryd.okF10 ?_
 simp -implicitDefEqProofs -dsimp only [go_sem, Tryd.ntmps10, Tryd.results10]
 simp -implicitDefEqProofs -dsimp only [go_sem, QuakeRow.v]
 repeat (first | ((have ct := l1Num_ok r.Id (by omega) (by omega); (first | refine callT.at ct ⟨leA, trivial⟩ ?_ | refine callS.at ct ⟨leA, trivial⟩ ?_); clear ct); simp -implicitDefEqProofs -dsimp only [go_sem]) | ((have ct := l1Num_ok r.Tick (by omega) (by omega); (first | refine callT.at ct ⟨leA, trivial⟩ ?_ | refine callS.at ct ⟨leA, trivial⟩ ?_); clear ct); simp -implicitDefEqProofs -dsimp only [go_sem]) | ((have ct := l1Num_ok r.X (by omega) (by omega); (first | refine callT.at ct ⟨leA, trivial⟩ ?_ | refine callS.at ct ⟨leA, trivial⟩ ?_); clear ct); simp -implicitDefEqProofs -dsimp only [go_sem]) | ((have ct := l1Num_ok r.Y (by omega) (by omega); (first | refine callT.at ct ⟨leA, trivial⟩ ?_ | refine callS.at ct ⟨leA, trivial⟩ ?_); clear ct); simp -implicitDefEqProofs -dsimp only [go_sem]) | ((have ct := l1Num_ok r.Deep (by omega) (by omega); (first | refine callT.at ct ⟨leA, trivial⟩ ?_ | refine callS.at ct ⟨leA, trivial⟩ ?_); clear ct); simp -implicitDefEqProofs -dsimp only [go_sem]) | (with_reducible refine And.intro (by first | omega | (show drawOk _ = true; kernel_rfl) | (simp only [ByteArray.size_append, ba_size, List.size_toArray, List.length_cons, List.length_nil]; omega)) ?_; try (repeat1' (first | simp -implicitDefEqProofs -dsimp only [go_sem] | simp -dsimp (disch := omega) only [wrap_i64]))))
 refine condT.split (fun h1 => absurd h1 (by simp; omega)) (fun h1 => ?_) <;> simp -implicitDefEqProofs -dsimp only [go_sem, h1]
 have e1 : qSign r = ⟨#[]⟩ := if_neg (by omega)
 have e : r.Size = ((r.Size.natAbs : Nat) : Int) := by omega
 have s1 : Int.tdiv r.Size 100 = ((r.Size.natAbs / 100 : Nat) : Int) := by rw [← t1, ← e]
 have s3 : Int.tmod r.Size 10 = ((r.Size.natAbs % 10 : Nat) : Int) := by rw [← t3, ← e]
 have s4 : Int.tdiv r.Size 10 = ((r.Size.natAbs / 10 : Nat) : Int) := by rw [← t4, ← e]
 repeat (first | ((have ct := l1Num_ok ((r.Size.natAbs / 100 : Nat) : Int) (by omega) (by omega); (first | refine callT.at ct ⟨leA, trivial⟩ ?_ | refine callS.at ct ⟨leA, trivial⟩ ?_); clear ct); simp -implicitDefEqProofs -dsimp only [go_sem, s1, t2, s3, s4]) | ((have ct := l1Num_ok ((r.Size.natAbs / 10 % 10 : Nat) : Int) (by omega) (by omega); (first | refine callT.at ct ⟨leA, trivial⟩ ?_ | refine callS.at ct ⟨leA, trivial⟩ ?_); clear ct); simp -implicitDefEqProofs -dsimp only [go_sem, s1, t2, s3, s4]) | ((have ct := l1Num_ok ((r.Size.natAbs % 10 : Nat) : Int) (by omega) (by omega); (first | refine callT.at ct ⟨leA, trivial⟩ ?_ | refine callS.at ct ⟨leA, trivial⟩ ?_); clear ct); simp -implicitDefEqProofs -dsimp only [go_sem, s1, t2, s3, s4]) | (with_reducible refine And.intro (by first | omega | (show drawOk _ = true; kernel_rfl) | (simp only [ByteArray.size_append, ba_size, List.size_toArray, List.length_cons, List.length_nil]; omega)) ?_; try (repeat1' (first | simp -implicitDefEqProofs -dsimp only [go_sem, s1, t2, s3, s4] | simp -dsimp (disch := omega) only [wrap_i64]))))
 rcases hg with hg | hg | hg | hg <;> simp -implicitDefEqProofs -dsimp only [go_sem, hg]
 all_goals (refine ⟨by simp only [ByteArray.size_append, ba_size, List.size_toArray, List.length_cons, List.length_nil]; omega, WeakR.drop' ?_ (by rfl)⟩; simp only [fin _ hg, qHead, e1, q1, q2, q3, q4, ba_nil'])
theorem l24Line_ok (r : QuakeRow) (h : qrB r = true) : Ctr Tryd.prog 10 [r.v] [] (.str (quakeLine r)) [] := by
 rcases Int.lt_or_le r.Size 0 with hn | hn
 · exact l24Line_neg r h hn
 · exact l24Line_pos r h hn
def qlineR (r : QuakeRow) : V := if qrB r = true then .tup [.str (quakeLine r), .bool true] else .tup [.str ByteArray.empty, .bool false]
theorem iQuakeLine_ok (r : QuakeRow) : Ctr Tryd.prog 16 [r.v] [] (qlineR r) [] := by
 refine Ctr.intro Tryd.mixed Tryd.func16 rfl Tryd.okF16 ?_
 simp -implicitDefEqProofs -dsimp only [go_sem, Tryd.ntmps16, Tryd.results16]
 simp -implicitDefEqProofs -dsimp only [go_sem, QuakeRow.v]
 cases h : qrB r with
 | false => repeat' (first | exact WeakR.refl _ _ _ | (refine WeakR.drop' ?_ (by rfl); first | rfl | (simp [qlineR, h, *]; done)) | ((have ct := iIsQuakeRow_ok r; (first | refine callT.at ct ⟨leA, trivial⟩ ?_ | refine callS.at ct ⟨leA, trivial⟩ ?_); clear ct); simp -implicitDefEqProofs -dsimp only [go_sem, qlineR, h, *]) | (refine guardT.splitT (fun _ => ?_) (fun _ => ?_) <;> simp -implicitDefEqProofs -dsimp only [go_sem, qlineR, h, *]) | (refine guardT.splitF (fun _ => ?_) (fun _ => ?_) <;> simp -implicitDefEqProofs -dsimp only [go_sem, qlineR, h, *]) | (refine condT.split (fun _ => ?_) (fun _ => ?_) <;> simp -implicitDefEqProofs -dsimp only [go_sem, qlineR, h, *]) | (exfalso; simp_all; done))
 | true =>
   repeat (first | ((have ct := iIsQuakeRow_ok r; (first | refine callT.at ct ⟨leA, trivial⟩ ?_ | refine callS.at ct ⟨leA, trivial⟩ ?_); clear ct); simp -implicitDefEqProofs -dsimp only [go_sem, h]) | ((have ct := quakeRowLine_ok r h; (first | refine callT.at ct ⟨leA, trivial⟩ ?_ | refine callS.at ct ⟨leA, trivial⟩ ?_); clear ct); simp -implicitDefEqProofs -dsimp only [go_sem, h]) | (with_reducible refine And.intro (by first | omega | (show drawOk _ = true; kernel_rfl) | (simp only [ByteArray.size_append, ba_size, List.size_toArray, List.length_cons, List.length_nil]; omega)) ?_; try (repeat1' (first | simp -implicitDefEqProofs -dsimp only [go_sem, h] | simp -dsimp (disch := omega) only [wrap_i64]))))
   exact WeakR.drop' (by simp [qlineR, h]) (by rfl)
end Go.Proofs
end
section
set_option maxRecDepth 100000
set_option maxHeartbeats 1000000
namespace Go.Proofs
open Go.Lv
def allS (p : UInt8 → Bool) (s : ByteArray) : Bool := s.data.toList.all p
def allTo (p : UInt8 → Bool) (s : ByteArray) (i : Nat) : Bool := (s.data.toList.take i).all p
theorem ba_len (s : ByteArray) : s.data.toList.length = s.size := rfl
theorem ba_get (s : ByteArray) {i : Nat} (h : i < s.size) : s.data.toList[i]'h = s[i]'h := rfl
theorem allTo_succ {p : UInt8 → Bool} {s : ByteArray} {i : Nat} (h : i < s.size) : allTo p s (i + 1) = (allTo p s i && p (s[i]'h)) := by
 have hl : i < s.data.toList.length := h
 rw [allTo, List.take_succ_eq_append_getElem hl, List.all_append]
 simp [allTo, ba_get s h]
theorem allTo_end {p : UInt8 → Bool} {s : ByteArray} : allTo p s s.size = allS p s := by
 rw [allTo, ← ba_len, List.take_length]; rfl
theorem ba_loop (s : ByteArray) : ∀ (n i : Nat) (r : List UInt8), s.size - i = n → ByteArray.toList.loop s i r = r.reverse ++ s.data.toList.drop i
 | 0, i, r, h => by
   unfold ByteArray.toList.loop
   rw [if_neg (by omega), List.drop_eq_nil_of_le (by rw [ba_len]; omega), List.append_nil]
 | n + 1, i, r, h => by
   have hi : i < s.data.toList.length := by rw [ba_len]; omega
   unfold ByteArray.toList.loop
   rw [if_pos (by omega), ba_loop s n (i + 1) _ (by omega), List.drop_eq_getElem_cons hi]
   have : s.get! i = s.data.toList[i] := by
     rw [ba_get s hi]
     exact getElem!_pos s.data i hi
   rw [this]
   simp
theorem ba_list (s : ByteArray) : s.toList = s.data.toList := by
 rw [ByteArray.toList, ba_loop s s.size 0 [] (by omega)]
 simp
end Go.Proofs
end
section
set_option maxRecDepth 100000
namespace Go.Proofs
open Go.Lv
def StringS.cs (x : ByteArray) : List V := [.str x]
instance : FlatP StringS.cs 1 := ⟨fun _ => rfl, fun _ d => by cases d <;> rfl, fun _ => rfl, fun _ => rfl⟩
theorem StringS.csl (a : ByteArray) : (StringS.cs a).length = 1 := rfl
abbrev StringS.ok (x : ByteArray) : Prop := strR x
abbrev StringS.sl (L : List ByteArray) : V := .sl L.length 1 (Go.Lv.rows StringS.cs L)
abbrev StringS.zs : List V := [.str ByteArray.empty]
abbrev StringS.v (x : ByteArray) : V := .str x
end Go.Proofs
end
section
set_option maxRecDepth 100000
set_option maxHeartbeats 1000000
namespace Go.Proofs
open Go.Lv
theorem ba_ext {a b : ByteArray} (h : a.data.toList = b.data.toList) : a = b := by
 apply ByteArray.ext
 exact Array.toList_inj.1 h
theorem ba_beq (a b : ByteArray) : (a.toList == b.toList) = decide (a = b) := by
 rw [ba_list, ba_list, Bool.eq_iff_iff]
 simp only [beq_iff_eq, decide_eq_true_eq]
 exact ⟨fun h => ba_ext h, fun h => by rw [h]⟩
theorem ba_app (a b : ByteArray) : (a ++ b).data.toList = a.data.toList ++ b.data.toList := by simp [ByteArray.data_append]
theorem ba_ext_list (s : ByteArray) (a b : Nat) : (s.extract a b).data.toList = (s.data.toList.take b).drop a := by
 rw [ByteArray.data_extract, Array.toList_extract, List.extract_eq_take_drop, List.drop_take]
def idx (c : UInt8) (s : ByteArray) : Int := Lib.indexByte s.data.toList c
def fnd (c : UInt8) (s : ByteArray) : Bool := decide (0 ≤ idx c s)
def bef (c : UInt8) (s : ByteArray) : ByteArray := if 0 ≤ idx c s then s.extract 0 (idx c s).toNat else s
def aft (c : UInt8) (s : ByteArray) : ByteArray := if 0 ≤ idx c s then s.extract ((idx c s).toNat + 1) s.size else ⟨#[]⟩
theorem ib_app {c : UInt8} : ∀ {x : List UInt8} (y : List UInt8), (x.all fun b => !(b == c)) = true → Lib.indexByte (x ++ c :: y) c = x.length
 | [], y, _ => by simp [Lib.indexByte]
 | a :: x, y, h => by
   simp only [List.all_cons, Bool.and_eq_true] at h
   have hf : (a == c) = false := by simpa using h.1
   rw [List.cons_append, Lib.indexByte, hf, ib_app y h.2]
   have : ((x.length : Int) == -1) = false := by simp
   simp [this]
theorem ib_none {c : UInt8} : ∀ {x : List UInt8}, (x.all fun b => !(b == c)) = true → Lib.indexByte x c = -1
 | [], _ => rfl
 | a :: x, h => by
   simp only [List.all_cons, Bool.and_eq_true] at h
   have hf : (a == c) = false := by simpa using h.1
   rw [Lib.indexByte, hf, ib_none h.2]
   rfl
theorem ib_find {c : UInt8} : ∀ {l : List UInt8}, 0 ≤ Lib.indexByte l c → ∃ x y, l = x ++ c :: y ∧ (x.all fun b => !(b == c)) = true
 | [], h => by simp [Lib.indexByte] at h
 | a :: l, h => by
   by_cases e : a = c
   · exact ⟨[], l, by simp [e], rfl⟩
   · have hf : (a == c) = false := by simpa using e
     rw [Lib.indexByte, hf] at h
     by_cases e2 : Lib.indexByte l c = -1
     · simp [e2] at h
     · have hg := Lib.indexByte_ge l c
       obtain ⟨x, y, h1, h2⟩ := ib_find (l := l) (c := c) (by omega)
       refine ⟨a :: x, y, by rw [h1]; rfl, ?_⟩
       rw [List.all_cons, hf, h2]; rfl
def noB (c : UInt8) (s : ByteArray) : Bool := allS (fun b => !(b == c)) s
theorem cut_at {c : UInt8} {x y : ByteArray} (h : noB c x = true) : idx c (x ++ (⟨#[c]⟩ ++ y)) = x.size ∧ bef c (x ++ (⟨#[c]⟩ ++ y)) = x ∧ aft c (x ++ (⟨#[c]⟩ ++ y)) = y ∧ fnd c (x ++ (⟨#[c]⟩ ++ y)) = true := by
 have e : (x ++ (⟨#[c]⟩ ++ y)).data.toList = x.data.toList ++ c :: y.data.toList := by rw [ba_app, ba_app]; rfl
 have hi : idx c (x ++ (⟨#[c]⟩ ++ y)) = x.size := by
   rw [idx, e, ib_app _ h, ba_len]
 have hp : (0 : Int) ≤ x.size := by omega
 refine ⟨hi, ?_, ?_, ?_⟩
 · rw [bef, hi, if_pos hp]
   apply ba_ext
   rw [ba_ext_list, e, Int.toNat_natCast, List.drop_zero]
   exact List.take_left' (ba_len x)
 · rw [aft, hi, if_pos hp]
   apply ba_ext
   have hl : (x ++ (⟨#[c]⟩ ++ y)).size = (x ++ (⟨#[c]⟩ ++ y)).data.toList.length := rfl
   rw [ba_ext_list, Int.toNat_natCast, hl, List.take_length, e]
   have e2 : x.data.toList ++ c :: y.data.toList = (x.data.toList ++ [c]) ++ y.data.toList := by simp
   rw [e2]
   exact List.drop_left' (by rw [List.length_append, ba_len]; rfl)
 · rw [fnd, hi]; exact decide_eq_true hp
theorem cut_none {c : UInt8} {x : ByteArray} (h : noB c x = true) : idx c x = -1 ∧ bef c x = x ∧ aft c x = ⟨#[]⟩ ∧ fnd c x = false := by
 have hi : idx c x = -1 := ib_none h
 refine ⟨hi, ?_, ?_, ?_⟩
 · rw [bef, hi]; rfl
 · rw [aft, hi]; rfl
 · rw [fnd, hi]; rfl
theorem cut_find {c : UInt8} {s : ByteArray} (h : fnd c s = true) : ∃ x y, s = x ++ (⟨#[c]⟩ ++ y) ∧ noB c x = true := by
 obtain ⟨x, y, h1, h2⟩ := ib_find (of_decide_eq_true h)
 refine ⟨⟨x.toArray⟩, ⟨y.toArray⟩, ?_, ?_⟩
 · apply ba_ext
   rw [ba_app, ba_app, h1]
   simp
 · unfold noB allS; simpa using h2
theorem idx_le (c : UInt8) (s : ByteArray) : -1 ≤ idx c s ∧ idx c s < s.size := by
 refine ⟨Lib.indexByte_ge _ _, ?_⟩
 by_cases h : 0 ≤ idx c s
 · obtain ⟨x, y, e, hx⟩ := cut_find (c := c) (s := s) (decide_eq_true h)
   rw [e, (cut_at hx).1]
   simp only [ByteArray.size_append]
   have : (⟨#[c]⟩ : ByteArray).size = 1 := rfl
   omega
 · omega
theorem indexOne_ok (s : ByteArray) (c : UInt8) : Ctr Tryd.prog 35 [.str s, .str ⟨#[c]⟩] [] (.int .i64 (idx c s)) [] := by
 refine ⟨Tryd.okF35, fun w vs m av hH hav hgl hsz ha => ?_⟩
 obtain ⟨v, u, rfl⟩ : ∃ v u, vs = #[v, u] := by
   match vs, hsz with
   | ⟨[v, u]⟩, _ => exact ⟨v, u, rfl⟩
 have h0 := ha 0 (by simp)
 have h1 := ha 1 (by simp)
 simp only [List.getElem_cons_zero, List.getElem_cons_succ] at h0 h1
 obtain rfl : v = .string s := by
   simp at h0; cases h0; rfl
 obtain rfl : u = .string ⟨#[c]⟩ := by
   simp at h1; cases h1; rfl
 refine (Tryd.stringslite_Index_one s c w).mono ?_
 rintro e w' ⟨rfl, rfl⟩
 exact ⟨_, m, rfl, Ext.refl _ _, ⟨fun i j ci cj h => by simp at h, fun id cs h => by simp at h, fun id cs h => by simp at h⟩, .int _ _, fun id cs h => by simp at h⟩
theorem liteCut_ok (s : ByteArray) (c : UInt8) (hs : s.size ≤ 281474976710656) : Ctr Tryd.prog 23 [.str s, .str ⟨#[c]⟩] [] (.tup [.str (bef c s), .str (aft c s), .bool (fnd c s)]) [] := by
 have hi := idx_le c s
 refine Ctr.intro Tryd.mixed Tryd.func23 rfl Tryd.okF23 ?_
 simp -implicitDefEqProofs -dsimp only [go_sem, Tryd.ntmps23, Tryd.results23]
 (first | refine callT.at (indexOne_ok s c) ⟨leA, leA, trivial⟩ ?_ | refine callS.at (indexOne_ok s c) ⟨leA, leA, trivial⟩ ?_)
 simp -implicitDefEqProofs -dsimp only [go_sem]
 refine condT.split (fun h1 => ?_) (fun h1 => ?_) <;> simp -implicitDefEqProofs -dsimp only [go_sem, h1]
 · have h1' := of_decide_eq_true h1
   repeat (with_reducible refine sideA ?_)
   have e1 : ((#[c] : Array UInt8).size : Int) = 1 := rfl
   have e2 : (idx c s + 1).toNat = (idx c s).toNat + 1 := by omega
   rw [e1, wrap_i64 (by omega) (by omega), e2]
   refine ⟨⟨by omega, by omega⟩, WeakR.drop' ?_ (by rfl)⟩
   rw [bef, aft, fnd, if_pos h1', if_pos h1', h1]
 · have h1' := of_decide_eq_false h1
   exact WeakR.drop' (by rw [bef, aft, fnd, if_neg h1', if_neg h1', h1]) (by rfl)
theorem cut_ok (s : ByteArray) (c : UInt8) (hs : s.size ≤ 281474976710656) : Ctr Tryd.prog 12 [.str s, .str ⟨#[c]⟩] [] (.tup [.str (bef c s), .str (aft c s), .bool (fnd c s)]) [] := by
 refine Ctr.intro Tryd.mixed Tryd.func12 rfl Tryd.okF12 ?_
 simp -implicitDefEqProofs -dsimp only [go_sem, Tryd.ntmps12, Tryd.results12]
 (have ct := liteCut_ok s c hs; (first | refine callT.at ct ⟨leA, leA, trivial⟩ ?_ | refine callS.at ct ⟨leA, leA, trivial⟩ ?_); clear ct)
 simp -implicitDefEqProofs -dsimp only [go_sem]
 exact WeakR.drop' rfl (by rfl)
def splTo (c : UInt8) (s : ByteArray) : Nat → List ByteArray × Nat
 | 0 => ([], 0)
 | i + 1 => if h : i < s.size then (if (s[i]'h == c) = true then ((splTo c s i).1 ++ [s.extract (splTo c s i).2 i], i + 1) else splTo c s i) else splTo c s i
theorem splTo_yes {c : UInt8} {s : ByteArray} {i : Nat} (h : i < s.size) (hc : (s[i]'h == c) = true) : splTo c s (i + 1) = ((splTo c s i).1 ++ [s.extract (splTo c s i).2 i], i + 1) := by
 rw [splTo, dif_pos h, if_pos hc]
theorem splTo_no {c : UInt8} {s : ByteArray} {i : Nat} (h : i < s.size) (hc : (s[i]'h == c) = false) : splTo c s (i + 1) = splTo c s i := by
 rw [splTo, dif_pos h, if_neg (by simp [hc])]
theorem splTo_bd (c : UInt8) (s : ByteArray) : ∀ i, i ≤ s.size → (splTo c s i).2 ≤ i ∧ (splTo c s i).1.length ≤ i
 | 0, _ => by simp [splTo]
 | i + 1, h => by
   have ih := splTo_bd c s i (by omega)
   have hi : i < s.size := by omega
   cases hc : (s[i]'hi == c) with
   | true => rw [splTo_yes hi hc]; simp; omega
   | false => rw [splTo_no hi hc]; omega
def splS (c : UInt8) (s : ByteArray) : List ByteArray := (splTo c s s.size).1 ++ [s.extract (splTo c s s.size).2 s.size]
theorem idx_first {c : UInt8} {s : ByteArray} {i : Nat} (h : i < s.size) (h0 : allTo (fun b => !(b == c)) s i = true) (hc : (s[i]'h == c) = true) : idx c s = i := by
 have hl : i < s.data.toList.length := h
 have e : s.data.toList = s.data.toList.take i ++ c :: s.data.toList.drop (i + 1) := by
   have : s.data.toList[i] = c := by rw [ba_get s h]; simpa using hc
   rw [← this, ← List.drop_eq_getElem_cons hl, List.take_append_drop]
 rw [idx, e, ib_app _ h0]
 simp
 omega
theorem spl_first (c : UInt8) (s : ByteArray) : ∀ i, i ≤ s.size → (allTo (fun b => !(b == c)) s i = true → splTo c s i = ([], 0)) ∧ (allTo (fun b => !(b == c)) s i = false → fnd c s = true ∧ ∃ l, (splTo c s i).1 = bef c s :: l)
 | 0, _ => ⟨fun _ => rfl, fun h => by simp [allTo] at h⟩
 | i + 1, h => by
   have hi : i < s.size := by omega
   obtain ⟨h1, h2⟩ := spl_first c s i (by omega)
   cases hc : (s[i]'hi == c) with
   | true =>
     rw [splTo_yes hi hc, allTo_succ hi]
     refine ⟨fun g => by simp [hc] at g, fun _ => ?_⟩
     cases ha : allTo (fun b => !(b == c)) s i with
     | true =>
       have hx := idx_first hi ha hc
       refine ⟨by rw [fnd, hx]; exact decide_eq_true (by omega), [], ?_⟩
       rw [h1 ha, bef, hx, if_pos (by omega)]
       simp
     | false =>
       obtain ⟨g1, l, g2⟩ := h2 ha
       refine ⟨g1, l ++ [s.extract (splTo c s i).2 i], ?_⟩
       rw [g2]; rfl
   | false =>
     rw [splTo_no hi hc, allTo_succ hi]
     have e : (allTo (fun b => !(b == c)) s i && !(s[i]'hi == c)) = allTo (fun b => !(b == c)) s i := by rw [hc]; simp
     rw [e]
     exact ⟨h1, h2⟩
theorem splS_spec (c : UInt8) (s : ByteArray) : ∃ l, splS c s = bef c s :: l ∧ (l = [] ↔ fnd c s = false) := by
 obtain ⟨h1, h2⟩ := spl_first c s s.size (Nat.le_refl _)
 rw [allTo_end] at h1 h2
 cases ha : allS (fun b => !(b == c)) s with
 | true =>
   obtain ⟨_, g2, _, g4⟩ := cut_none (c := c) (x := s) ha
   refine ⟨[], ?_, by simp [g4]⟩
   rw [splS, h1 ha, g2]
   simp
 | false =>
   obtain ⟨g1, l, g2⟩ := h2 ha
   refine ⟨l ++ [s.extract (splTo c s s.size).2 s.size], by rw [splS, g2]; rfl, ?_⟩
   rw [g1]
   simp
theorem l1Split_ok (s : ByteArray) (c : UInt8) (hs : s.size ≤ 16777216) : Ctr Tryd.prog 7 [.str s, .int .u8 c.toNat] [] (.osl 0 0 (splS c s).length 1) [some (rows StringS.cs (splS c s))] := by
 refine Ctr.intro Tryd.mixed Tryd.func7 rfl Tryd.okF7 ?_
 simp -implicitDefEqProofs -dsimp only [go_sem, Tryd.ntmps7, Tryd.results7]
 refine LoopT.intro (fun i : Nat => i ≤ s.size) (fun i => ⟨[.str s, .int .u8 c.toNat, .undef, .undef, .undef, .osl 0 0 (splTo c s i).1.length 1, .int .i64 (splTo c s i).2, .int .i64 i, .undef, .undef, .undef, .undef, .undef, .undef, .undef, .undef, .undef, .undef, .undef, .undef, .undef, .undef, .undef, .undef, .undef, .undef, .undef, .undef, .undef, .undef, .undef, .undef, .undef, .undef, .undef], [some (rows StringS.cs (splTo c s i).1)], 0⟩) (fun i => s.size - i) 0 (Nat.zero_le _) ?_ (fun i hi => ?_)
 · refine Weak.cut (1) (by simp) (by simp) ?_ ?_
   · simp [LeC, LeV, ren, cutF, splTo]
   · simp [cutH, cutB, splTo, rows]
 have hbd := splTo_bd c s i hi
 simp -implicitDefEqProofs -dsimp only [go_sem]
 refine condT.split (fun h1 => ?_) (fun h1 => ?_)
 · simp -implicitDefEqProofs -dsimp only [go_sem, h1]
   have hi' : i < s.size := by simpa using h1
   refine ⟨⟨by omega, hi'⟩, ?_⟩
   have hbb : ((s[i]'hi') == c) = (((s[i]'hi').toNat : Int) == (c.toNat : Int)) := by
     rw [Bool.eq_iff_iff]; simp only [beq_iff_eq]
     constructor
     · intro g; rw [g]
     · intro g; exact UInt8.toNat_inj.1 (by omega)
   refine condT.split (fun h2 => ?_) (fun h2 => ?_) <;> simp -implicitDefEqProofs -dsimp only [go_sem, h2]
   · (repeat ((repeat1' (first | simp -implicitDefEqProofs -dsimp only [go_sem, rows_length, rows_cell, Nat.mul_one] | simp -dsimp (disch := omega) only [wrap_i64])); repeat (with_reducible refine sideA ?_)))
     refine ⟨i + 1, hi', ?_, by omega⟩
     refine Weak.cut (1) (by simp) (by simp) ?_ ?_
     · rw [splTo_yes hi' (by rw [hbb]; exact h2)]
       simp [LeC, LeV, ren, cutF]
     · rw [splTo_yes hi' (by rw [hbb]; exact h2), ← rows_snoc]
       simp [cutH, cutB, ren, cutF, map_ren_rows, killC, StringS.cs]
   · try (repeat1' (first | simp -implicitDefEqProofs -dsimp only [go_sem] | simp -dsimp (disch := omega) only [wrap_i64]))
     refine ⟨i + 1, hi', ?_, by omega⟩
     refine Weak.cut (1) (by simp) (by simp) ?_ ?_
     · rw [splTo_no hi' (by rw [hbb]; exact h2)]
       simp [LeC, LeV, ren, cutF]
     · rw [splTo_no hi' (by rw [hbb]; exact h2)]
       simp [cutH, cutB, map_ren_rows]
 · simp -implicitDefEqProofs -dsimp only [go_sem, h1]
   have hi' : i = s.size := by simp at h1; omega
   subst hi'
   (repeat ((repeat1' (first | simp -implicitDefEqProofs -dsimp only [go_sem, rows_length, rows_cell, Nat.mul_one] | simp -dsimp (disch := omega) only [wrap_i64])); repeat (with_reducible refine sideA ?_)))
   have hl : (splS c s).length = (splTo c s s.size).1.length + 1 := by simp [splS]
   rw [hl]
   refine WeakR.pick [0] (by decide) (fun j hj => by omega) (.inl ?_) ?_
   · rfl
   · simp only [pickH, List.map_cons, List.map_nil, pickB, List.getElem?_cons_zero, splS, ← rows_snoc]
     simp [ren, pickF, posOf, map_ren_rows, StringS.cs, killC]
end Go.Proofs
end
