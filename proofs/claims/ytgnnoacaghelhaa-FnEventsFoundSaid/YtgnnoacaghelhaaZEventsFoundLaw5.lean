/-
  A part of the proof: texts put together by a program of the prover. Conditions: none.
-/
import Derived.Test.YtgnnoacaghelhaaZEventsFoundLaw4
set_option linter.unusedSimpArgs false
set_option linter.unusedVariables false
section
set_option maxRecDepth 100000
set_option maxHeartbeats 10000000
namespace Go.Proofs
open Go.Lv
def originP (B : List Int) (k : Int) (r : V) (hout : Hp) : Prop := ∃ (o : Origin) (c : Cur), ((-1 ≤ o.X ∧ o.X ≤ 1000) ∧ (0 ≤ o.Y ∧ o.Y ≤ 700) ∧ (0 ≤ o.Tick ∧ o.Tick ≤ 1000001)) ∧ c.le k ∧ r = o.v ∧ hout = [some (c.cs B)]
theorem origin_fin {B : List Int} {k : Int} {h : Hp} {x y t : Int} {c : Cur} (h0 : h[0]? = some (some (c.cs B))) (hx : -1 ≤ x ∧ x ≤ 1000) (hy : 0 ≤ y ∧ y ≤ 700) (ht : 0 ≤ t ∧ t ≤ 1000001) (hc : c.le k) : RelR 1 (.agg [.int .i64 x, .int .i64 y, .int .i64 t]) h (originP B k) := by
 refine ⟨_, _, ⟨⟨x, y, t⟩, c, ⟨hx, hy, ht⟩, hc, rfl, rfl⟩, WeakR.pick [0] (by decide) (fun j hj => by cases j <;> simp_all) (.inl rfl) ?_⟩
 simp only [pickH, List.map_cons, List.map_nil, pickB, h0, Cur.ren]
theorem memB {K : List Int} {v a b : Int} (h : v ∈ K) (hk : K.all (fun x => decide (a ≤ x ∧ x ≤ b)) = true) : a ≤ v ∧ v ≤ b := by
 have := List.all_eq_true.1 hk v h
 simpa using this
theorem quakeOrigin_ok {B : List Int} (hB : CB B) {k : Int} (hk : k ≤ 900000) {c : Cur} (hc : c.le k) : CtrP Try.prog 39 [.ptr 0 0] [some (c.cs B)] (originP B (k + 30)) := by
 refine CtrP.intro Try.mixed Try.func39 rfl Try.okF39 ?_
 simp -implicitDefEqProofs -dsimp only [go_sem, Try.ntmps39, Try.results39]
 (repeat ((repeat1' (first | simp -implicitDefEqProofs -dsimp only [go_sem] | simp -dsimp (disch := omega) only [wrap_i64])); repeat (with_reducible refine sideA ?_)))
 refine among_call hB hc (by omega) [0, 100, 200, 330, 400, 999] (by simp) (by simp) rfl rfl rfl (fun vc1 c1 pvc1 hc1 => ?_)
 (repeat ((repeat1' (first | simp -implicitDefEqProofs -dsimp only [go_sem, Cur.ren, map_ren_rows] | simp -dsimp (disch := omega) only [wrap_i64])); repeat (with_reducible refine sideA ?_)))
 refine among_call hB hc1 (by omega) [0, 50, 200, 400, 700] (by simp) (by simp) rfl rfl rfl (fun vc2 c2 pvc2 hc2 => ?_)
 (repeat ((repeat1' (first | simp -implicitDefEqProofs -dsimp only [go_sem, Cur.ren, map_ren_rows] | simp -dsimp (disch := omega) only [wrap_i64])); repeat (with_reducible refine sideA ?_)))
 refine among_call hB hc2 (by omega) [0, 1000, 5000, 60000] (by simp) (by simp) rfl rfl rfl (fun vc3 c3 pvc3 hc3 => ?_)
 (repeat ((repeat1' (first | simp -implicitDefEqProofs -dsimp only [go_sem, Cur.ren, map_ren_rows] | simp -dsimp (disch := omega) only [wrap_i64])); repeat (with_reducible refine sideA ?_)))
 refine one_call hB hc3 (by omega) 40 (by omega) rfl (fun vc4 c4 hc4 => ?_)
 (repeat ((repeat1' (first | simp -implicitDefEqProofs -dsimp only [go_sem, Cur.ren, map_ren_rows] | simp -dsimp (disch := omega) only [wrap_i64])); repeat (with_reducible refine sideA ?_)))
 refine condT.split (fun h1 => ?_) (fun h1 => ?_)
 · (repeat ((repeat1' (first | simp -implicitDefEqProofs -dsimp only [go_sem, h1, Cur.ren] | simp -dsimp (disch := omega) only [wrap_i64])); repeat (with_reducible refine sideA ?_)))
   refine among_call hB hc4 (by omega) [-1, 1000] (by simp) (by simp) rfl rfl rfl (fun vc5 c5 pvc5 hc5 => ?_)
   (repeat ((repeat1' (first | simp -implicitDefEqProofs -dsimp only [go_sem, Cur.ren, map_ren_rows] | simp -dsimp (disch := omega) only [wrap_i64])); repeat (with_reducible refine sideA ?_)))
   refine among_call hB hc5 (by omega) [0, 1000001] (by simp) (by simp) rfl rfl rfl (fun vc6 c6 pvc6 hc6 => ?_)
   (repeat ((repeat1' (first | simp -implicitDefEqProofs -dsimp only [go_sem, Cur.ren, map_ren_rows] | simp -dsimp (disch := omega) only [wrap_i64])); repeat (with_reducible refine sideA ?_)))
   exact origin_fin rfl (memB pvc5 (by decide)) (by decide) (memB pvc6 (by decide)) (lmonoQ hc6 (by omega))
 · (repeat ((repeat1' (first | simp -implicitDefEqProofs -dsimp only [go_sem, h1] | simp -dsimp (disch := omega) only [wrap_i64])); repeat (with_reducible refine sideA ?_)))
   exact origin_fin rfl (memB pvc1 (by decide)) (memB pvc2 (by decide)) (memB pvc3 (by decide)) (lmonoQ hc4 (by omega))
theorem gridStep_ok {B : List Int} (hB : CB B) {k : Int} (hk : k ≤ 900000) {c : Cur} (hc : c.le k) : CtrP Try.prog 26 [.ptr 0 0] [some (c.cs B)] (fun r hout => ∃ (v : Int) (c : Cur), c.le (k + 2) ∧ r = .int .i64 v ∧ hout = [some (c.cs B)]) := by
 refine CtrP.intro Try.mixed Try.func26 rfl Try.okF26 ?_
 simp -implicitDefEqProofs -dsimp only [go_sem, Try.ntmps26, Try.results26]
 (repeat ((repeat1' (first | simp -implicitDefEqProofs -dsimp only [go_sem] | simp -dsimp (disch := omega) only [wrap_i64])); repeat (with_reducible refine sideA ?_)))
 refine among_call hB hc (by omega) [100, 100, 200, 250, 500, 333, 501, 0] (by simp) (by simp) rfl rfl rfl (fun vc1 c1 pvc1 hc1 => ?_)
 (repeat ((repeat1' (first | simp -implicitDefEqProofs -dsimp only [go_sem, Cur.ren, map_ren_rows] | simp -dsimp (disch := omega) only [wrap_i64])); repeat (with_reducible refine sideA ?_)))
 refine ⟨_, _, ⟨vc1, c1, hc1, rfl, rfl⟩, WeakR.pick [0] (by decide) (fun j hj => by cases j <;> simp_all) (.inl rfl) ?_⟩
 simp [pickH, pickB, Cur.ren]
def arrsP (B : List Int) (k : Int) (r : V) (hout : Hp) : Prop := ∃ (L : List Arrival) (c : Cur), L.length ≤ 20 ∧ c.le k ∧ r = .osl 1 0 L.length 5 ∧ hout = [some (c.cs B), some (rows Arrival.cs L)]
theorem arrs_fin {B : List Int} {k : Int} {h : Hp} {L : List Arrival} {c : Cur} (h0 : h[0]? = some (some (c.cs B))) (h1 : h[1]? = some (some (rows Arrival.cs L))) (hl : L.length ≤ 20) (hc : c.le k) : RelR 1 (.osl 1 0 L.length 5) h (arrsP B k) := by
 refine ⟨_, _, ⟨L, c, hl, hc, rfl, rfl⟩, WeakR.pick [0, 1] (by decide) (fun j hj => by cases j <;> simp_all) (.inl rfl) ?_⟩
 simp only [pickH, List.map_cons, List.map_nil, pickB, h0, h1, Cur.ren, map_ren_rows]
def sqG (x y u v : Int) : Int := 400 * ((x - u) * (x - u) + (y - v) * (y - v))
theorem l10SquareG_ok (x y u v : Int) (hx : 0 ≤ x ∧ x ≤ 1000) (hy : 0 ≤ y ∧ y ≤ 1000) (hu : -1 ≤ u ∧ u ≤ 1000) (hv : 0 ≤ v ∧ v ≤ 1000) : Ctr Try.prog 59 [.int .i64 x, .int .i64 y, .int .i64 u, .int .i64 v] [] (.int .i64 (sqG x y u v)) [] := by
 have h1 := sq_le (x := x - u) (b := 1001) (by omega)
 have h2 := sq_le (x := y - v) (b := 1001) (by omega)
 have h3 := mul_self_nonneg' (x - u)
 have h4 := mul_self_nonneg' (y - v)
 refine Ctr.intro Try.mixed Try.func59 rfl Try.okF59 ?_
 simp -implicitDefEqProofs -dsimp only [go_sem, Try.ntmps59, Try.results59]
 (repeat1' (first | simp -implicitDefEqProofs -dsimp only [go_sem] | simp -dsimp (disch := omega) only [wrap_i64]))
 exact WeakR.drop' rfl (by rfl)
theorem sqG_bd {x y u v : Int} (hx : 0 ≤ x ∧ x ≤ 1000) (hy : 0 ≤ y ∧ y ≤ 1000) (hu : -1 ≤ u ∧ u ≤ 1000) (hv : 0 ≤ v ∧ v ≤ 1000) : 0 ≤ sqG x y u v ∧ sqG x y u v ≤ 1000000000 := by
 have h1 := sq_le (x := x - u) (b := 1001) (by omega)
 have h2 := sq_le (x := y - v) (b := 1001) (by omega)
 have h3 := mul_self_nonneg' (x - u)
 have h4 := mul_self_nonneg' (y - v)
 unfold sqG
 constructor <;> omega
theorem isq_bd {q : Int} (h : 0 ≤ q ∧ q ≤ 1000000000) : 0 ≤ (isq q.toNat : Int) ∧ (isq q.toNat : Int) ≤ 40000 := by
 refine ⟨by omega, ?_⟩
 rcases Nat.lt_or_ge 40000 (isq q.toNat) with h1 | h1
 · have h2 := (isq_spec q.toNat).1
   have h3 : 40000 * 40000 ≤ isq q.toNat * isq q.toNat := Nat.mul_le_mul (by omega) (by omega)
   omega
 · omega
def getT : List (Nat × St) → Nat → Option St
 | [], _ => none
 | p :: l, m => if Nat.beq p.1 m = true then some p.2 else getT l m
def gA (s0 : St) (l : List (Nat × St)) (m : Nat) (s : St) : Prop := cond (Nat.beq m 0) (some s0 = some s) (getT l m = some s)
def tabR (B : List Int) (S : List Arrival) (o1 o2 o : Origin) (c8 c9 : Cur) (n : Nat) (n9 v6 v7 v8 v9 m q rt : Int) : List (Nat × St) :=
 [(0, ⟨[.ptr 0 0, .undef, .undef, .osl 1 0 S.length 5, .ptr 2 0, .ptr 3 0, .int .i64 n, .ptr 4 0, .ptr 8 0, .undef, .undef, .undef, .undef, .undef, .undef, .undef, .undef, .undef, .undef, .undef, .undef, .undef, .undef, .undef, .undef, .undef, .undef, .undef, .undef, .undef, .undef, .undef, .undef, .undef, .undef, .undef, .undef, .undef, .undef, .undef, .undef, .undef, .undef, .undef, .undef, .undef, .undef, .undef, .undef, .undef, .undef, .undef, .undef, .undef, .undef, .undef, .undef, .undef, .undef, .undef, .undef, .undef, .undef, .undef, .undef, .undef, .undef, .undef, .undef, .undef, .undef, .undef, .undef, .undef, .undef, .undef, .undef, .undef, .undef, .undef, .undef, .undef, .undef, .undef, .undef, .undef, .undef, .undef, .undef, .undef, .undef, .undef, .undef, .undef, .undef, .undef, .undef, .undef, .undef, .undef], [some (c8.cs B), some (rows Arrival.cs S), some [.int .i64 o1.X, .int .i64 o1.Y, .int .i64 o1.Tick], some [.int .i64 o2.X, .int .i64 o2.Y, .int .i64 o2.Tick], some [.int .i64 o.X, .int .i64 o.Y, .int .i64 o.Tick], some (rows IntS.cs [0, 60, 100, 250, 400, 900]), some (rows IntS.cs [0, 80, 200, 500]), some (rows IntS.cs [0, 1, 20, 200, 1000]), some [.int .i64 n9, .int .i64 v6, .int .i64 v7, .int .i64 0, .int .i64 v8]], 1⟩),
  (1, ⟨[.ptr 0 0, .undef, .undef, .osl 1 0 S.length 5, .ptr 2 0, .ptr 3 0, .int .i64 n, .ptr 4 0, .ptr 8 0, .undef, .undef, .undef, .undef, .undef, .undef, .undef, .undef, .undef, .undef, .undef, .undef, .undef, .undef, .undef, .undef, .undef, .undef, .undef, .undef, .undef, .undef, .undef, .undef, .undef, .undef, .undef, .ptr 4 2, .undef, .undef, .undef, .undef, .undef, .undef, .undef, .undef, .undef, .undef, .undef, .undef, .undef, .undef, .undef, .undef, .undef, .undef, .undef, .undef, .undef, .undef, .undef, .undef, .undef, .undef, .undef, .undef, .undef, .undef, .undef, .undef, .undef, .undef, .undef, .undef, .undef, .undef, .undef, .undef, .undef, .undef, .undef, .undef, .undef, .undef, .undef, .undef, .undef, .undef, .undef, .undef, .undef, .undef, .undef, .undef, .undef, .undef, .undef, .undef, .undef, .undef, .undef], [some (c8.cs B), some (rows Arrival.cs S), some [.int .i64 o1.X, .int .i64 o1.Y, .int .i64 o1.Tick], some [.int .i64 o2.X, .int .i64 o2.Y, .int .i64 o2.Tick], some [.int .i64 o.X, .int .i64 o.Y, .int .i64 o.Tick], some (rows IntS.cs [0, 60, 100, 250, 400, 900]), some (rows IntS.cs [0, 80, 200, 500]), some (rows IntS.cs [0, 1, 20, 200, 1000]), some [.int .i64 n9, .int .i64 v6, .int .i64 v7, .int .i64 0, .int .i64 v8]], 1⟩),
  (9, ⟨[.ptr 0 0, .undef, .undef, .osl 1 0 S.length 5, .ptr 2 0, .ptr 3 0, .int .i64 n, .ptr 4 0, .ptr 8 0, .undef, .undef, .undef, .undef, .undef, .undef, .undef, .undef, .undef, .undef, .undef, .undef, .undef, .undef, .undef, .undef, .undef, .undef, .undef, .undef, .undef, .undef, .undef, .undef, .undef, .undef, .undef, .ptr 4 2, .undef, .undef, .ptr 8 1, .undef, .undef, .undef, .undef, .undef, .undef, .undef, .undef, .undef, .undef, .undef, .undef, .undef, .undef, .undef, .undef, .undef, .undef, .undef, .undef, .undef, .undef, .undef, .undef, .undef, .undef, .undef, .undef, .undef, .undef, .undef, .undef, .undef, .undef, .undef, .undef, .undef, .undef, .undef, .undef, .undef, .undef, .undef, .undef, .undef, .undef, .undef, .undef, .undef, .undef, .undef, .undef, .undef, .undef, .undef, .undef, .undef, .undef, .undef, .undef], [some (c8.cs B), some (rows Arrival.cs S), some [.int .i64 o1.X, .int .i64 o1.Y, .int .i64 o1.Tick], some [.int .i64 o2.X, .int .i64 o2.Y, .int .i64 o2.Tick], some [.int .i64 o.X, .int .i64 o.Y, .int .i64 o.Tick], some (rows IntS.cs [0, 60, 100, 250, 400, 900]), some (rows IntS.cs [0, 80, 200, 500]), some (rows IntS.cs [0, 1, 20, 200, 1000]), some [.int .i64 n9, .int .i64 v6, .int .i64 v7, .int .i64 0, .int .i64 v8]], 1⟩),
  (41, ⟨[.ptr 0 0, .undef, .undef, .osl 1 0 S.length 5, .ptr 2 0, .ptr 3 0, .int .i64 n, .ptr 4 0, .ptr 8 0, .undef, .undef, .undef, .undef, .undef, .undef, .undef, .undef, .undef, .undef, .undef, .undef, .undef, .undef, .undef, .undef, .undef, .undef, .undef, .undef, .undef, .undef, .undef, .undef, .undef, .undef, .undef, .ptr 4 2, .undef, .undef, .ptr 8 1, .undef, .ptr 8 2, .undef, .undef, .undef, .undef, .undef, .undef, .undef, .undef, .undef, .undef, .undef, .undef, .undef, .undef, .undef, .undef, .undef, .undef, .undef, .undef, .undef, .undef, .undef, .undef, .undef, .undef, .undef, .undef, .undef, .undef, .undef, .undef, .undef, .undef, .undef, .undef, .undef, .undef, .undef, .undef, .undef, .undef, .undef, .undef, .undef, .undef, .undef, .undef, .undef, .undef, .undef, .undef, .undef, .undef, .undef, .undef, .undef, .undef], [some (c8.cs B), some (rows Arrival.cs S), some [.int .i64 o1.X, .int .i64 o1.Y, .int .i64 o1.Tick], some [.int .i64 o2.X, .int .i64 o2.Y, .int .i64 o2.Tick], some [.int .i64 o.X, .int .i64 o.Y, .int .i64 o.Tick], some (rows IntS.cs [0, 60, 100, 250, 400, 900]), some (rows IntS.cs [0, 80, 200, 500]), some (rows IntS.cs [0, 1, 20, 200, 1000]), some [.int .i64 n9, .int .i64 v6, .int .i64 v7, .int .i64 0, .int .i64 v8]], 1⟩),
  (169, ⟨[.ptr 0 0, .undef, .undef, .osl 1 0 S.length 5, .ptr 2 0, .ptr 3 0, .int .i64 n, .ptr 4 0, .ptr 8 0, .undef, .undef, .undef, .undef, .undef, .undef, .undef, .undef, .undef, .undef, .undef, .undef, .undef, .undef, .undef, .undef, .undef, .undef, .undef, .undef, .undef, .undef, .undef, .undef, .undef, .undef, .undef, .ptr 4 2, .undef, .undef, .ptr 8 1, .undef, .ptr 8 2, .undef, .ptr 4 0, .undef, .undef, .undef, .undef, .undef, .undef, .undef, .undef, .undef, .undef, .undef, .undef, .undef, .undef, .undef, .undef, .undef, .undef, .undef, .undef, .undef, .undef, .undef, .undef, .undef, .undef, .undef, .undef, .undef, .undef, .undef, .undef, .undef, .undef, .undef, .undef, .undef, .undef, .undef, .undef, .undef, .undef, .undef, .undef, .undef, .undef, .undef, .undef, .undef, .undef, .undef, .undef, .undef, .undef, .undef, .undef], [some (c8.cs B), some (rows Arrival.cs S), some [.int .i64 o1.X, .int .i64 o1.Y, .int .i64 o1.Tick], some [.int .i64 o2.X, .int .i64 o2.Y, .int .i64 o2.Tick], some [.int .i64 o.X, .int .i64 o.Y, .int .i64 o.Tick], some (rows IntS.cs [0, 60, 100, 250, 400, 900]), some (rows IntS.cs [0, 80, 200, 500]), some (rows IntS.cs [0, 1, 20, 200, 1000]), some [.int .i64 n9, .int .i64 v6, .int .i64 v7, .int .i64 0, .int .i64 v8]], 1⟩),
  (681, ⟨[.ptr 0 0, .undef, .undef, .osl 1 0 S.length 5, .ptr 2 0, .ptr 3 0, .int .i64 n, .undef, .ptr 8 0, .undef, .undef, .undef, .undef, .undef, .undef, .undef, .undef, .undef, .undef, .undef, .undef, .undef, .undef, .undef, .undef, .undef, .undef, .undef, .undef, .undef, .undef, .undef, .undef, .undef, .undef, .undef, .ptr 4 2, .undef, .undef, .ptr 8 1, .undef, .ptr 8 2, .undef, .ptr 4 0, .undef, .ptr 4 1, .undef, .undef, .undef, .undef, .undef, .undef, .undef, .undef, .undef, .undef, .undef, .undef, .undef, .undef, .undef, .undef, .undef, .undef, .undef, .undef, .undef, .undef, .undef, .undef, .undef, .undef, .undef, .undef, .undef, .undef, .undef, .undef, .undef, .undef, .undef, .undef, .undef, .undef, .undef, .undef, .undef, .undef, .undef, .undef, .undef, .undef, .undef, .undef, .undef, .undef, .undef, .undef, .undef, .undef], [some (c8.cs B), some (rows Arrival.cs S), some [.int .i64 o1.X, .int .i64 o1.Y, .int .i64 o1.Tick], some [.int .i64 o2.X, .int .i64 o2.Y, .int .i64 o2.Tick], some [.int .i64 o.X, .int .i64 o.Y, .int .i64 o.Tick], some (rows IntS.cs [0, 60, 100, 250, 400, 900]), some (rows IntS.cs [0, 80, 200, 500]), some (rows IntS.cs [0, 1, 20, 200, 1000]), some [.int .i64 n9, .int .i64 v6, .int .i64 v7, .int .i64 0, .int .i64 v8]], 1⟩),
  (17065, ⟨[.ptr 0 0, .undef, .undef, .osl 1 0 S.length 5, .ptr 2 0, .ptr 3 0, .int .i64 n, .undef, .ptr 8 0, .undef, .undef, .undef, .undef, .undef, .undef, .undef, .undef, .undef, .undef, .undef, .undef, .undef, .undef, .undef, .undef, .undef, .undef, .undef, .undef, .undef, .undef, .undef, .undef, .undef, .undef, .undef, .ptr 4 2, .undef, .undef, .ptr 8 1, .undef, .ptr 8 2, .undef, .ptr 4 0, .undef, .ptr 4 1, .undef, .undef, .undef, .undef, .ptr 0 0, .undef, .undef, .undef, .undef, .undef, .undef, .undef, .undef, .undef, .undef, .undef, .undef, .undef, .undef, .undef, .undef, .undef, .undef, .undef, .undef, .undef, .undef, .undef, .undef, .undef, .undef, .undef, .undef, .undef, .undef, .undef, .undef, .undef, .undef, .undef, .undef, .undef, .undef, .undef, .undef, .undef, .undef, .undef, .undef, .undef, .undef, .undef, .undef, .undef], [some (c8.cs B), some (rows Arrival.cs S), some [.int .i64 o1.X, .int .i64 o1.Y, .int .i64 o1.Tick], some [.int .i64 o2.X, .int .i64 o2.Y, .int .i64 o2.Tick], some [.int .i64 o.X, .int .i64 o.Y, .int .i64 o.Tick], some (rows IntS.cs [0, 60, 100, 250, 400, 900]), some (rows IntS.cs [0, 80, 200, 500]), some (rows IntS.cs [0, 1, 20, 200, 1000]), some [.int .i64 n9, .int .i64 v6, .int .i64 v7, .int .i64 0, .int .i64 v8]], 1⟩),
  (17067, ⟨[.ptr 0 0, .undef, .undef, .osl 1 0 S.length 5, .ptr 2 0, .ptr 3 0, .int .i64 n, .undef, .ptr 8 0, .undef, .undef, .undef, .undef, .undef, .undef, .undef, .undef, .undef, .undef, .undef, .undef, .undef, .undef, .undef, .undef, .undef, .undef, .undef, .undef, .undef, .undef, .undef, .undef, .undef, .undef, .undef, .undef, .int .i64 o.Tick, .undef, .ptr 8 1, .undef, .ptr 8 2, .undef, .ptr 4 0, .undef, .ptr 4 1, .undef, .undef, .undef, .undef, .ptr 0 0, .undef, .undef, .undef, .undef, .undef, .undef, .undef, .undef, .undef, .undef, .undef, .undef, .undef, .undef, .undef, .undef, .undef, .undef, .undef, .undef, .undef, .undef, .undef, .undef, .undef, .undef, .undef, .undef, .undef, .undef, .undef, .undef, .undef, .undef, .undef, .undef, .undef, .undef, .undef, .undef, .undef, .undef, .undef, .undef, .undef, .undef, .undef, .undef, .undef], [some (c8.cs B), some (rows Arrival.cs S), some [.int .i64 o1.X, .int .i64 o1.Y, .int .i64 o1.Tick], some [.int .i64 o2.X, .int .i64 o2.Y, .int .i64 o2.Tick], some [.int .i64 o.X, .int .i64 o.Y, .int .i64 o.Tick], some (rows IntS.cs [0, 60, 100, 250, 400, 900]), some (rows IntS.cs [0, 80, 200, 500]), some (rows IntS.cs [0, 1, 20, 200, 1000]), some [.int .i64 n9, .int .i64 v6, .int .i64 v7, .int .i64 0, .int .i64 v8]], 1⟩),
  (17071, ⟨[.ptr 0 0, .undef, .undef, .osl 1 0 S.length 5, .ptr 2 0, .ptr 3 0, .int .i64 n, .undef, .ptr 8 0, .undef, .undef, .undef, .undef, .undef, .undef, .undef, .undef, .undef, .undef, .undef, .undef, .undef, .undef, .undef, .undef, .undef, .undef, .undef, .undef, .undef, .undef, .undef, .undef, .undef, .undef, .undef, .undef, .undef, .int .i64 m, .ptr 8 1, .undef, .ptr 8 2, .undef, .ptr 4 0, .undef, .ptr 4 1, .undef, .undef, .undef, .undef, .ptr 0 0, .undef, .undef, .undef, .undef, .undef, .undef, .undef, .undef, .undef, .undef, .undef, .undef, .undef, .undef, .undef, .undef, .undef, .undef, .undef, .undef, .undef, .undef, .undef, .undef, .undef, .undef, .undef, .undef, .undef, .undef, .undef, .undef, .undef, .undef, .undef, .undef, .undef, .undef, .undef, .undef, .undef, .undef, .undef, .undef, .undef, .undef, .undef, .undef, .undef], [some (c8.cs B), some (rows Arrival.cs S), some [.int .i64 o1.X, .int .i64 o1.Y, .int .i64 o1.Tick], some [.int .i64 o2.X, .int .i64 o2.Y, .int .i64 o2.Tick], some [.int .i64 o.X, .int .i64 o.Y, .int .i64 o.Tick], some (rows IntS.cs [0, 60, 100, 250, 400, 900]), some (rows IntS.cs [0, 80, 200, 500]), some (rows IntS.cs [0, 1, 20, 200, 1000]), some [.int .i64 n9, .int .i64 v6, .int .i64 v7, .int .i64 0, .int .i64 v8]], 1⟩),
  (17081, ⟨[.ptr 0 0, .undef, .undef, .osl 1 0 S.length 5, .ptr 2 0, .ptr 3 0, .int .i64 n, .undef, .ptr 8 0, .undef, .undef, .undef, .undef, .undef, .undef, .undef, .undef, .undef, .undef, .undef, .undef, .undef, .undef, .undef, .undef, .undef, .undef, .undef, .undef, .undef, .undef, .undef, .undef, .undef, .undef, .undef, .ptr 4 2, .undef, .undef, .undef, .int .i64 v6, .ptr 8 2, .undef, .ptr 4 0, .undef, .ptr 4 1, .undef, .undef, .undef, .undef, .ptr 0 0, .undef, .undef, .undef, .undef, .undef, .undef, .undef, .undef, .undef, .undef, .undef, .undef, .undef, .undef, .undef, .undef, .undef, .undef, .undef, .undef, .undef, .undef, .undef, .undef, .undef, .undef, .undef, .undef, .undef, .undef, .undef, .undef, .undef, .undef, .undef, .undef, .undef, .undef, .undef, .undef, .undef, .undef, .undef, .undef, .undef, .undef, .undef, .undef, .undef], [some (c8.cs B), some (rows Arrival.cs S), some [.int .i64 o1.X, .int .i64 o1.Y, .int .i64 o1.Tick], some [.int .i64 o2.X, .int .i64 o2.Y, .int .i64 o2.Tick], some [.int .i64 o.X, .int .i64 o.Y, .int .i64 o.Tick], some (rows IntS.cs [0, 60, 100, 250, 400, 900]), some (rows IntS.cs [0, 80, 200, 500]), some (rows IntS.cs [0, 1, 20, 200, 1000]), some [.int .i64 n9, .int .i64 v6, .int .i64 v7, .int .i64 0, .int .i64 v8]], 1⟩),
  (17083, ⟨[.ptr 0 0, .undef, .undef, .osl 1 0 S.length 5, .ptr 2 0, .ptr 3 0, .int .i64 n, .undef, .ptr 8 0, .undef, .undef, .undef, .undef, .undef, .undef, .undef, .undef, .undef, .undef, .undef, .undef, .undef, .undef, .undef, .undef, .undef, .undef, .undef, .undef, .undef, .undef, .undef, .undef, .undef, .undef, .undef, .undef, .int .i64 o.Tick, .undef, .undef, .int .i64 v6, .ptr 8 2, .undef, .ptr 4 0, .undef, .ptr 4 1, .undef, .undef, .undef, .undef, .ptr 0 0, .undef, .undef, .undef, .undef, .undef, .undef, .undef, .undef, .undef, .undef, .undef, .undef, .undef, .undef, .undef, .undef, .undef, .undef, .undef, .undef, .undef, .undef, .undef, .undef, .undef, .undef, .undef, .undef, .undef, .undef, .undef, .undef, .undef, .undef, .undef, .undef, .undef, .undef, .undef, .undef, .undef, .undef, .undef, .undef, .undef, .undef, .undef, .undef, .undef], [some (c8.cs B), some (rows Arrival.cs S), some [.int .i64 o1.X, .int .i64 o1.Y, .int .i64 o1.Tick], some [.int .i64 o2.X, .int .i64 o2.Y, .int .i64 o2.Tick], some [.int .i64 o.X, .int .i64 o.Y, .int .i64 o.Tick], some (rows IntS.cs [0, 60, 100, 250, 400, 900]), some (rows IntS.cs [0, 80, 200, 500]), some (rows IntS.cs [0, 1, 20, 200, 1000]), some [.int .i64 n9, .int .i64 v6, .int .i64 v7, .int .i64 0, .int .i64 v8]], 1⟩),
  (17087, ⟨[.ptr 0 0, .undef, .undef, .osl 1 0 S.length 5, .ptr 2 0, .ptr 3 0, .int .i64 n, .undef, .ptr 8 0, .undef, .undef, .undef, .undef, .undef, .undef, .undef, .undef, .undef, .undef, .undef, .undef, .undef, .undef, .undef, .undef, .undef, .undef, .undef, .undef, .undef, .undef, .undef, .undef, .undef, .undef, .undef, .undef, .undef, .int .i64 m, .undef, .int .i64 v6, .ptr 8 2, .undef, .ptr 4 0, .undef, .ptr 4 1, .undef, .undef, .undef, .undef, .ptr 0 0, .undef, .undef, .undef, .undef, .undef, .undef, .undef, .undef, .undef, .undef, .undef, .undef, .undef, .undef, .undef, .undef, .undef, .undef, .undef, .undef, .undef, .undef, .undef, .undef, .undef, .undef, .undef, .undef, .undef, .undef, .undef, .undef, .undef, .undef, .undef, .undef, .undef, .undef, .undef, .undef, .undef, .undef, .undef, .undef, .undef, .undef, .undef, .undef, .undef], [some (c8.cs B), some (rows Arrival.cs S), some [.int .i64 o1.X, .int .i64 o1.Y, .int .i64 o1.Tick], some [.int .i64 o2.X, .int .i64 o2.Y, .int .i64 o2.Tick], some [.int .i64 o.X, .int .i64 o.Y, .int .i64 o.Tick], some (rows IntS.cs [0, 60, 100, 250, 400, 900]), some (rows IntS.cs [0, 80, 200, 500]), some (rows IntS.cs [0, 1, 20, 200, 1000]), some [.int .i64 n9, .int .i64 v6, .int .i64 v7, .int .i64 0, .int .i64 v8]], 1⟩),
  (17129, ⟨[.ptr 0 0, .undef, .undef, .osl 1 0 S.length 5, .ptr 2 0, .ptr 3 0, .int .i64 n, .undef, .ptr 8 0, .undef, .undef, .undef, .undef, .undef, .undef, .undef, .undef, .undef, .undef, .undef, .undef, .undef, .undef, .undef, .undef, .undef, .undef, .undef, .undef, .undef, .undef, .undef, .undef, .undef, .undef, .undef, .ptr 4 2, .undef, .undef, .ptr 8 1, .undef, .undef, .int .i64 v7, .ptr 4 0, .undef, .ptr 4 1, .undef, .undef, .undef, .undef, .ptr 0 0, .undef, .undef, .undef, .undef, .undef, .undef, .undef, .undef, .undef, .undef, .undef, .undef, .undef, .undef, .undef, .undef, .undef, .undef, .undef, .undef, .undef, .undef, .undef, .undef, .undef, .undef, .undef, .undef, .undef, .undef, .undef, .undef, .undef, .undef, .undef, .undef, .undef, .undef, .undef, .undef, .undef, .undef, .undef, .undef, .undef, .undef, .undef, .undef, .undef], [some (c8.cs B), some (rows Arrival.cs S), some [.int .i64 o1.X, .int .i64 o1.Y, .int .i64 o1.Tick], some [.int .i64 o2.X, .int .i64 o2.Y, .int .i64 o2.Tick], some [.int .i64 o.X, .int .i64 o.Y, .int .i64 o.Tick], some (rows IntS.cs [0, 60, 100, 250, 400, 900]), some (rows IntS.cs [0, 80, 200, 500]), some (rows IntS.cs [0, 1, 20, 200, 1000]), some [.int .i64 n9, .int .i64 v6, .int .i64 v7, .int .i64 0, .int .i64 v8]], 1⟩),
  (17131, ⟨[.ptr 0 0, .undef, .undef, .osl 1 0 S.length 5, .ptr 2 0, .ptr 3 0, .int .i64 n, .undef, .ptr 8 0, .undef, .undef, .undef, .undef, .undef, .undef, .undef, .undef, .undef, .undef, .undef, .undef, .undef, .undef, .undef, .undef, .undef, .undef, .undef, .undef, .undef, .undef, .undef, .undef, .undef, .undef, .undef, .undef, .int .i64 o.Tick, .undef, .ptr 8 1, .undef, .undef, .int .i64 v7, .ptr 4 0, .undef, .ptr 4 1, .undef, .undef, .undef, .undef, .ptr 0 0, .undef, .undef, .undef, .undef, .undef, .undef, .undef, .undef, .undef, .undef, .undef, .undef, .undef, .undef, .undef, .undef, .undef, .undef, .undef, .undef, .undef, .undef, .undef, .undef, .undef, .undef, .undef, .undef, .undef, .undef, .undef, .undef, .undef, .undef, .undef, .undef, .undef, .undef, .undef, .undef, .undef, .undef, .undef, .undef, .undef, .undef, .undef, .undef, .undef], [some (c8.cs B), some (rows Arrival.cs S), some [.int .i64 o1.X, .int .i64 o1.Y, .int .i64 o1.Tick], some [.int .i64 o2.X, .int .i64 o2.Y, .int .i64 o2.Tick], some [.int .i64 o.X, .int .i64 o.Y, .int .i64 o.Tick], some (rows IntS.cs [0, 60, 100, 250, 400, 900]), some (rows IntS.cs [0, 80, 200, 500]), some (rows IntS.cs [0, 1, 20, 200, 1000]), some [.int .i64 n9, .int .i64 v6, .int .i64 v7, .int .i64 0, .int .i64 v8]], 1⟩),
  (17135, ⟨[.ptr 0 0, .undef, .undef, .osl 1 0 S.length 5, .ptr 2 0, .ptr 3 0, .int .i64 n, .undef, .ptr 8 0, .undef, .undef, .undef, .undef, .undef, .undef, .undef, .undef, .undef, .undef, .undef, .undef, .undef, .undef, .undef, .undef, .undef, .undef, .undef, .undef, .undef, .undef, .undef, .undef, .undef, .undef, .undef, .undef, .undef, .int .i64 m, .ptr 8 1, .undef, .undef, .int .i64 v7, .ptr 4 0, .undef, .ptr 4 1, .undef, .undef, .undef, .undef, .ptr 0 0, .undef, .undef, .undef, .undef, .undef, .undef, .undef, .undef, .undef, .undef, .undef, .undef, .undef, .undef, .undef, .undef, .undef, .undef, .undef, .undef, .undef, .undef, .undef, .undef, .undef, .undef, .undef, .undef, .undef, .undef, .undef, .undef, .undef, .undef, .undef, .undef, .undef, .undef, .undef, .undef, .undef, .undef, .undef, .undef, .undef, .undef, .undef, .undef, .undef], [some (c8.cs B), some (rows Arrival.cs S), some [.int .i64 o1.X, .int .i64 o1.Y, .int .i64 o1.Tick], some [.int .i64 o2.X, .int .i64 o2.Y, .int .i64 o2.Tick], some [.int .i64 o.X, .int .i64 o.Y, .int .i64 o.Tick], some (rows IntS.cs [0, 60, 100, 250, 400, 900]), some (rows IntS.cs [0, 80, 200, 500]), some (rows IntS.cs [0, 1, 20, 200, 1000]), some [.int .i64 n9, .int .i64 v6, .int .i64 v7, .int .i64 0, .int .i64 v8]], 1⟩),
  (17145, ⟨[.ptr 0 0, .undef, .undef, .osl 1 0 S.length 5, .ptr 2 0, .ptr 3 0, .int .i64 n, .undef, .ptr 8 0, .undef, .undef, .undef, .undef, .undef, .undef, .undef, .undef, .undef, .undef, .undef, .undef, .undef, .undef, .undef, .undef, .undef, .undef, .undef, .undef, .undef, .undef, .undef, .undef, .undef, .undef, .undef, .ptr 4 2, .undef, .undef, .undef, .int .i64 v6, .undef, .int .i64 v7, .ptr 4 0, .undef, .ptr 4 1, .undef, .undef, .undef, .undef, .ptr 0 0, .undef, .undef, .undef, .undef, .undef, .undef, .undef, .undef, .undef, .undef, .undef, .undef, .undef, .undef, .undef, .undef, .undef, .undef, .undef, .undef, .undef, .undef, .undef, .undef, .undef, .undef, .undef, .undef, .undef, .undef, .undef, .undef, .undef, .undef, .undef, .undef, .undef, .undef, .undef, .undef, .undef, .undef, .undef, .undef, .undef, .undef, .undef, .undef, .undef], [some (c8.cs B), some (rows Arrival.cs S), some [.int .i64 o1.X, .int .i64 o1.Y, .int .i64 o1.Tick], some [.int .i64 o2.X, .int .i64 o2.Y, .int .i64 o2.Tick], some [.int .i64 o.X, .int .i64 o.Y, .int .i64 o.Tick], some (rows IntS.cs [0, 60, 100, 250, 400, 900]), some (rows IntS.cs [0, 80, 200, 500]), some (rows IntS.cs [0, 1, 20, 200, 1000]), some [.int .i64 n9, .int .i64 v6, .int .i64 v7, .int .i64 0, .int .i64 v8]], 1⟩),
  (17147, ⟨[.ptr 0 0, .undef, .undef, .osl 1 0 S.length 5, .ptr 2 0, .ptr 3 0, .int .i64 n, .undef, .ptr 8 0, .undef, .undef, .undef, .undef, .undef, .undef, .undef, .undef, .undef, .undef, .undef, .undef, .undef, .undef, .undef, .undef, .undef, .undef, .undef, .undef, .undef, .undef, .undef, .undef, .undef, .undef, .undef, .undef, .int .i64 o.Tick, .undef, .undef, .int .i64 v6, .undef, .int .i64 v7, .ptr 4 0, .undef, .ptr 4 1, .undef, .undef, .undef, .undef, .ptr 0 0, .undef, .undef, .undef, .undef, .undef, .undef, .undef, .undef, .undef, .undef, .undef, .undef, .undef, .undef, .undef, .undef, .undef, .undef, .undef, .undef, .undef, .undef, .undef, .undef, .undef, .undef, .undef, .undef, .undef, .undef, .undef, .undef, .undef, .undef, .undef, .undef, .undef, .undef, .undef, .undef, .undef, .undef, .undef, .undef, .undef, .undef, .undef, .undef, .undef], [some (c8.cs B), some (rows Arrival.cs S), some [.int .i64 o1.X, .int .i64 o1.Y, .int .i64 o1.Tick], some [.int .i64 o2.X, .int .i64 o2.Y, .int .i64 o2.Tick], some [.int .i64 o.X, .int .i64 o.Y, .int .i64 o.Tick], some (rows IntS.cs [0, 60, 100, 250, 400, 900]), some (rows IntS.cs [0, 80, 200, 500]), some (rows IntS.cs [0, 1, 20, 200, 1000]), some [.int .i64 n9, .int .i64 v6, .int .i64 v7, .int .i64 0, .int .i64 v8]], 1⟩),
  (17151, ⟨[.ptr 0 0, .undef, .undef, .osl 1 0 S.length 5, .ptr 2 0, .ptr 3 0, .int .i64 n, .undef, .ptr 8 0, .undef, .undef, .undef, .undef, .undef, .undef, .undef, .undef, .undef, .undef, .undef, .undef, .undef, .undef, .undef, .undef, .undef, .undef, .undef, .undef, .undef, .undef, .undef, .undef, .undef, .undef, .undef, .undef, .undef, .int .i64 m, .undef, .int .i64 v6, .undef, .int .i64 v7, .ptr 4 0, .undef, .ptr 4 1, .undef, .undef, .undef, .undef, .ptr 0 0, .undef, .undef, .undef, .undef, .undef, .undef, .undef, .undef, .undef, .undef, .undef, .undef, .undef, .undef, .undef, .undef, .undef, .undef, .undef, .undef, .undef, .undef, .undef, .undef, .undef, .undef, .undef, .undef, .undef, .undef, .undef, .undef, .undef, .undef, .undef, .undef, .undef, .undef, .undef, .undef, .undef, .undef, .undef, .undef, .undef, .undef, .undef, .undef, .undef], [some (c8.cs B), some (rows Arrival.cs S), some [.int .i64 o1.X, .int .i64 o1.Y, .int .i64 o1.Tick], some [.int .i64 o2.X, .int .i64 o2.Y, .int .i64 o2.Tick], some [.int .i64 o.X, .int .i64 o.Y, .int .i64 o.Tick], some (rows IntS.cs [0, 60, 100, 250, 400, 900]), some (rows IntS.cs [0, 80, 200, 500]), some (rows IntS.cs [0, 1, 20, 200, 1000]), some [.int .i64 n9, .int .i64 v6, .int .i64 v7, .int .i64 0, .int .i64 v8]], 1⟩),
  (17321, ⟨[.ptr 0 0, .undef, .undef, .osl 1 0 S.length 5, .ptr 2 0, .ptr 3 0, .int .i64 n, .undef, .ptr 8 0, .undef, .undef, .undef, .undef, .undef, .undef, .undef, .undef, .undef, .undef, .undef, .undef, .undef, .undef, .undef, .undef, .undef, .undef, .undef, .undef, .undef, .undef, .undef, .undef, .undef, .undef, .undef, .ptr 4 2, .undef, .undef, .ptr 8 1, .undef, .ptr 8 2, .undef, .undef, .int .i64 o.X, .ptr 4 1, .undef, .undef, .undef, .undef, .ptr 0 0, .undef, .undef, .undef, .undef, .undef, .undef, .undef, .undef, .undef, .undef, .undef, .undef, .undef, .undef, .undef, .undef, .undef, .undef, .undef, .undef, .undef, .undef, .undef, .undef, .undef, .undef, .undef, .undef, .undef, .undef, .undef, .undef, .undef, .undef, .undef, .undef, .undef, .undef, .undef, .undef, .undef, .undef, .undef, .undef, .undef, .undef, .undef, .undef, .undef], [some (c8.cs B), some (rows Arrival.cs S), some [.int .i64 o1.X, .int .i64 o1.Y, .int .i64 o1.Tick], some [.int .i64 o2.X, .int .i64 o2.Y, .int .i64 o2.Tick], some [.int .i64 o.X, .int .i64 o.Y, .int .i64 o.Tick], some (rows IntS.cs [0, 60, 100, 250, 400, 900]), some (rows IntS.cs [0, 80, 200, 500]), some (rows IntS.cs [0, 1, 20, 200, 1000]), some [.int .i64 n9, .int .i64 v6, .int .i64 v7, .int .i64 0, .int .i64 v8]], 1⟩),
  (17323, ⟨[.ptr 0 0, .undef, .undef, .osl 1 0 S.length 5, .ptr 2 0, .ptr 3 0, .int .i64 n, .undef, .ptr 8 0, .undef, .undef, .undef, .undef, .undef, .undef, .undef, .undef, .undef, .undef, .undef, .undef, .undef, .undef, .undef, .undef, .undef, .undef, .undef, .undef, .undef, .undef, .undef, .undef, .undef, .undef, .undef, .undef, .int .i64 o.Tick, .undef, .ptr 8 1, .undef, .ptr 8 2, .undef, .undef, .int .i64 o.X, .ptr 4 1, .undef, .undef, .undef, .undef, .ptr 0 0, .undef, .undef, .undef, .undef, .undef, .undef, .undef, .undef, .undef, .undef, .undef, .undef, .undef, .undef, .undef, .undef, .undef, .undef, .undef, .undef, .undef, .undef, .undef, .undef, .undef, .undef, .undef, .undef, .undef, .undef, .undef, .undef, .undef, .undef, .undef, .undef, .undef, .undef, .undef, .undef, .undef, .undef, .undef, .undef, .undef, .undef, .undef, .undef, .undef], [some (c8.cs B), some (rows Arrival.cs S), some [.int .i64 o1.X, .int .i64 o1.Y, .int .i64 o1.Tick], some [.int .i64 o2.X, .int .i64 o2.Y, .int .i64 o2.Tick], some [.int .i64 o.X, .int .i64 o.Y, .int .i64 o.Tick], some (rows IntS.cs [0, 60, 100, 250, 400, 900]), some (rows IntS.cs [0, 80, 200, 500]), some (rows IntS.cs [0, 1, 20, 200, 1000]), some [.int .i64 n9, .int .i64 v6, .int .i64 v7, .int .i64 0, .int .i64 v8]], 1⟩),
  (17327, ⟨[.ptr 0 0, .undef, .undef, .osl 1 0 S.length 5, .ptr 2 0, .ptr 3 0, .int .i64 n, .undef, .ptr 8 0, .undef, .undef, .undef, .undef, .undef, .undef, .undef, .undef, .undef, .undef, .undef, .undef, .undef, .undef, .undef, .undef, .undef, .undef, .undef, .undef, .undef, .undef, .undef, .undef, .undef, .undef, .undef, .undef, .undef, .int .i64 m, .ptr 8 1, .undef, .ptr 8 2, .undef, .undef, .int .i64 o.X, .ptr 4 1, .undef, .undef, .undef, .undef, .ptr 0 0, .undef, .undef, .undef, .undef, .undef, .undef, .undef, .undef, .undef, .undef, .undef, .undef, .undef, .undef, .undef, .undef, .undef, .undef, .undef, .undef, .undef, .undef, .undef, .undef, .undef, .undef, .undef, .undef, .undef, .undef, .undef, .undef, .undef, .undef, .undef, .undef, .undef, .undef, .undef, .undef, .undef, .undef, .undef, .undef, .undef, .undef, .undef, .undef, .undef], [some (c8.cs B), some (rows Arrival.cs S), some [.int .i64 o1.X, .int .i64 o1.Y, .int .i64 o1.Tick], some [.int .i64 o2.X, .int .i64 o2.Y, .int .i64 o2.Tick], some [.int .i64 o.X, .int .i64 o.Y, .int .i64 o.Tick], some (rows IntS.cs [0, 60, 100, 250, 400, 900]), some (rows IntS.cs [0, 80, 200, 500]), some (rows IntS.cs [0, 1, 20, 200, 1000]), some [.int .i64 n9, .int .i64 v6, .int .i64 v7, .int .i64 0, .int .i64 v8]], 1⟩),
  (17337, ⟨[.ptr 0 0, .undef, .undef, .osl 1 0 S.length 5, .ptr 2 0, .ptr 3 0, .int .i64 n, .undef, .ptr 8 0, .undef, .undef, .undef, .undef, .undef, .undef, .undef, .undef, .undef, .undef, .undef, .undef, .undef, .undef, .undef, .undef, .undef, .undef, .undef, .undef, .undef, .undef, .undef, .undef, .undef, .undef, .undef, .ptr 4 2, .undef, .undef, .undef, .int .i64 v6, .ptr 8 2, .undef, .undef, .int .i64 o.X, .ptr 4 1, .undef, .undef, .undef, .undef, .ptr 0 0, .undef, .undef, .undef, .undef, .undef, .undef, .undef, .undef, .undef, .undef, .undef, .undef, .undef, .undef, .undef, .undef, .undef, .undef, .undef, .undef, .undef, .undef, .undef, .undef, .undef, .undef, .undef, .undef, .undef, .undef, .undef, .undef, .undef, .undef, .undef, .undef, .undef, .undef, .undef, .undef, .undef, .undef, .undef, .undef, .undef, .undef, .undef, .undef, .undef], [some (c8.cs B), some (rows Arrival.cs S), some [.int .i64 o1.X, .int .i64 o1.Y, .int .i64 o1.Tick], some [.int .i64 o2.X, .int .i64 o2.Y, .int .i64 o2.Tick], some [.int .i64 o.X, .int .i64 o.Y, .int .i64 o.Tick], some (rows IntS.cs [0, 60, 100, 250, 400, 900]), some (rows IntS.cs [0, 80, 200, 500]), some (rows IntS.cs [0, 1, 20, 200, 1000]), some [.int .i64 n9, .int .i64 v6, .int .i64 v7, .int .i64 0, .int .i64 v8]], 1⟩),
  (17339, ⟨[.ptr 0 0, .undef, .undef, .osl 1 0 S.length 5, .ptr 2 0, .ptr 3 0, .int .i64 n, .undef, .ptr 8 0, .undef, .undef, .undef, .undef, .undef, .undef, .undef, .undef, .undef, .undef, .undef, .undef, .undef, .undef, .undef, .undef, .undef, .undef, .undef, .undef, .undef, .undef, .undef, .undef, .undef, .undef, .undef, .undef, .int .i64 o.Tick, .undef, .undef, .int .i64 v6, .ptr 8 2, .undef, .undef, .int .i64 o.X, .ptr 4 1, .undef, .undef, .undef, .undef, .ptr 0 0, .undef, .undef, .undef, .undef, .undef, .undef, .undef, .undef, .undef, .undef, .undef, .undef, .undef, .undef, .undef, .undef, .undef, .undef, .undef, .undef, .undef, .undef, .undef, .undef, .undef, .undef, .undef, .undef, .undef, .undef, .undef, .undef, .undef, .undef, .undef, .undef, .undef, .undef, .undef, .undef, .undef, .undef, .undef, .undef, .undef, .undef, .undef, .undef, .undef], [some (c8.cs B), some (rows Arrival.cs S), some [.int .i64 o1.X, .int .i64 o1.Y, .int .i64 o1.Tick], some [.int .i64 o2.X, .int .i64 o2.Y, .int .i64 o2.Tick], some [.int .i64 o.X, .int .i64 o.Y, .int .i64 o.Tick], some (rows IntS.cs [0, 60, 100, 250, 400, 900]), some (rows IntS.cs [0, 80, 200, 500]), some (rows IntS.cs [0, 1, 20, 200, 1000]), some [.int .i64 n9, .int .i64 v6, .int .i64 v7, .int .i64 0, .int .i64 v8]], 1⟩),
  (17343, ⟨[.ptr 0 0, .undef, .undef, .osl 1 0 S.length 5, .ptr 2 0, .ptr 3 0, .int .i64 n, .undef, .ptr 8 0, .undef, .undef, .undef, .undef, .undef, .undef, .undef, .undef, .undef, .undef, .undef, .undef, .undef, .undef, .undef, .undef, .undef, .undef, .undef, .undef, .undef, .undef, .undef, .undef, .undef, .undef, .undef, .undef, .undef, .int .i64 m, .undef, .int .i64 v6, .ptr 8 2, .undef, .undef, .int .i64 o.X, .ptr 4 1, .undef, .undef, .undef, .undef, .ptr 0 0, .undef, .undef, .undef, .undef, .undef, .undef, .undef, .undef, .undef, .undef, .undef, .undef, .undef, .undef, .undef, .undef, .undef, .undef, .undef, .undef, .undef, .undef, .undef, .undef, .undef, .undef, .undef, .undef, .undef, .undef, .undef, .undef, .undef, .undef, .undef, .undef, .undef, .undef, .undef, .undef, .undef, .undef, .undef, .undef, .undef, .undef, .undef, .undef, .undef], [some (c8.cs B), some (rows Arrival.cs S), some [.int .i64 o1.X, .int .i64 o1.Y, .int .i64 o1.Tick], some [.int .i64 o2.X, .int .i64 o2.Y, .int .i64 o2.Tick], some [.int .i64 o.X, .int .i64 o.Y, .int .i64 o.Tick], some (rows IntS.cs [0, 60, 100, 250, 400, 900]), some (rows IntS.cs [0, 80, 200, 500]), some (rows IntS.cs [0, 1, 20, 200, 1000]), some [.int .i64 n9, .int .i64 v6, .int .i64 v7, .int .i64 0, .int .i64 v8]], 1⟩),
  (17385, ⟨[.ptr 0 0, .undef, .undef, .osl 1 0 S.length 5, .ptr 2 0, .ptr 3 0, .int .i64 n, .undef, .ptr 8 0, .undef, .undef, .undef, .undef, .undef, .undef, .undef, .undef, .undef, .undef, .undef, .undef, .undef, .undef, .undef, .undef, .undef, .undef, .undef, .undef, .undef, .undef, .undef, .undef, .undef, .undef, .undef, .ptr 4 2, .undef, .undef, .ptr 8 1, .undef, .undef, .int .i64 v7, .undef, .int .i64 o.X, .ptr 4 1, .undef, .undef, .undef, .undef, .ptr 0 0, .undef, .undef, .undef, .undef, .undef, .undef, .undef, .undef, .undef, .undef, .undef, .undef, .undef, .undef, .undef, .undef, .undef, .undef, .undef, .undef, .undef, .undef, .undef, .undef, .undef, .undef, .undef, .undef, .undef, .undef, .undef, .undef, .undef, .undef, .undef, .undef, .undef, .undef, .undef, .undef, .undef, .undef, .undef, .undef, .undef, .undef, .undef, .undef, .undef], [some (c8.cs B), some (rows Arrival.cs S), some [.int .i64 o1.X, .int .i64 o1.Y, .int .i64 o1.Tick], some [.int .i64 o2.X, .int .i64 o2.Y, .int .i64 o2.Tick], some [.int .i64 o.X, .int .i64 o.Y, .int .i64 o.Tick], some (rows IntS.cs [0, 60, 100, 250, 400, 900]), some (rows IntS.cs [0, 80, 200, 500]), some (rows IntS.cs [0, 1, 20, 200, 1000]), some [.int .i64 n9, .int .i64 v6, .int .i64 v7, .int .i64 0, .int .i64 v8]], 1⟩),
  (17387, ⟨[.ptr 0 0, .undef, .undef, .osl 1 0 S.length 5, .ptr 2 0, .ptr 3 0, .int .i64 n, .undef, .ptr 8 0, .undef, .undef, .undef, .undef, .undef, .undef, .undef, .undef, .undef, .undef, .undef, .undef, .undef, .undef, .undef, .undef, .undef, .undef, .undef, .undef, .undef, .undef, .undef, .undef, .undef, .undef, .undef, .undef, .int .i64 o.Tick, .undef, .ptr 8 1, .undef, .undef, .int .i64 v7, .undef, .int .i64 o.X, .ptr 4 1, .undef, .undef, .undef, .undef, .ptr 0 0, .undef, .undef, .undef, .undef, .undef, .undef, .undef, .undef, .undef, .undef, .undef, .undef, .undef, .undef, .undef, .undef, .undef, .undef, .undef, .undef, .undef, .undef, .undef, .undef, .undef, .undef, .undef, .undef, .undef, .undef, .undef, .undef, .undef, .undef, .undef, .undef, .undef, .undef, .undef, .undef, .undef, .undef, .undef, .undef, .undef, .undef, .undef, .undef, .undef], [some (c8.cs B), some (rows Arrival.cs S), some [.int .i64 o1.X, .int .i64 o1.Y, .int .i64 o1.Tick], some [.int .i64 o2.X, .int .i64 o2.Y, .int .i64 o2.Tick], some [.int .i64 o.X, .int .i64 o.Y, .int .i64 o.Tick], some (rows IntS.cs [0, 60, 100, 250, 400, 900]), some (rows IntS.cs [0, 80, 200, 500]), some (rows IntS.cs [0, 1, 20, 200, 1000]), some [.int .i64 n9, .int .i64 v6, .int .i64 v7, .int .i64 0, .int .i64 v8]], 1⟩),
  (17391, ⟨[.ptr 0 0, .undef, .undef, .osl 1 0 S.length 5, .ptr 2 0, .ptr 3 0, .int .i64 n, .undef, .ptr 8 0, .undef, .undef, .undef, .undef, .undef, .undef, .undef, .undef, .undef, .undef, .undef, .undef, .undef, .undef, .undef, .undef, .undef, .undef, .undef, .undef, .undef, .undef, .undef, .undef, .undef, .undef, .undef, .undef, .undef, .int .i64 m, .ptr 8 1, .undef, .undef, .int .i64 v7, .undef, .int .i64 o.X, .ptr 4 1, .undef, .undef, .undef, .undef, .ptr 0 0, .undef, .undef, .undef, .undef, .undef, .undef, .undef, .undef, .undef, .undef, .undef, .undef, .undef, .undef, .undef, .undef, .undef, .undef, .undef, .undef, .undef, .undef, .undef, .undef, .undef, .undef, .undef, .undef, .undef, .undef, .undef, .undef, .undef, .undef, .undef, .undef, .undef, .undef, .undef, .undef, .undef, .undef, .undef, .undef, .undef, .undef, .undef, .undef, .undef], [some (c8.cs B), some (rows Arrival.cs S), some [.int .i64 o1.X, .int .i64 o1.Y, .int .i64 o1.Tick], some [.int .i64 o2.X, .int .i64 o2.Y, .int .i64 o2.Tick], some [.int .i64 o.X, .int .i64 o.Y, .int .i64 o.Tick], some (rows IntS.cs [0, 60, 100, 250, 400, 900]), some (rows IntS.cs [0, 80, 200, 500]), some (rows IntS.cs [0, 1, 20, 200, 1000]), some [.int .i64 n9, .int .i64 v6, .int .i64 v7, .int .i64 0, .int .i64 v8]], 1⟩),
  (17401, ⟨[.ptr 0 0, .undef, .undef, .osl 1 0 S.length 5, .ptr 2 0, .ptr 3 0, .int .i64 n, .undef, .ptr 8 0, .undef, .undef, .undef, .undef, .undef, .undef, .undef, .undef, .undef, .undef, .undef, .undef, .undef, .undef, .undef, .undef, .undef, .undef, .undef, .undef, .undef, .undef, .undef, .undef, .undef, .undef, .undef, .ptr 4 2, .undef, .undef, .undef, .int .i64 v6, .undef, .int .i64 v7, .undef, .int .i64 o.X, .ptr 4 1, .undef, .undef, .undef, .undef, .ptr 0 0, .undef, .undef, .undef, .undef, .undef, .undef, .undef, .undef, .undef, .undef, .undef, .undef, .undef, .undef, .undef, .undef, .undef, .undef, .undef, .undef, .undef, .undef, .undef, .undef, .undef, .undef, .undef, .undef, .undef, .undef, .undef, .undef, .undef, .undef, .undef, .undef, .undef, .undef, .undef, .undef, .undef, .undef, .undef, .undef, .undef, .undef, .undef, .undef, .undef], [some (c8.cs B), some (rows Arrival.cs S), some [.int .i64 o1.X, .int .i64 o1.Y, .int .i64 o1.Tick], some [.int .i64 o2.X, .int .i64 o2.Y, .int .i64 o2.Tick], some [.int .i64 o.X, .int .i64 o.Y, .int .i64 o.Tick], some (rows IntS.cs [0, 60, 100, 250, 400, 900]), some (rows IntS.cs [0, 80, 200, 500]), some (rows IntS.cs [0, 1, 20, 200, 1000]), some [.int .i64 n9, .int .i64 v6, .int .i64 v7, .int .i64 0, .int .i64 v8]], 1⟩),
  (17403, ⟨[.ptr 0 0, .undef, .undef, .osl 1 0 S.length 5, .ptr 2 0, .ptr 3 0, .int .i64 n, .undef, .ptr 8 0, .undef, .undef, .undef, .undef, .undef, .undef, .undef, .undef, .undef, .undef, .undef, .undef, .undef, .undef, .undef, .undef, .undef, .undef, .undef, .undef, .undef, .undef, .undef, .undef, .undef, .undef, .undef, .undef, .int .i64 o.Tick, .undef, .undef, .int .i64 v6, .undef, .int .i64 v7, .undef, .int .i64 o.X, .ptr 4 1, .undef, .undef, .undef, .undef, .ptr 0 0, .undef, .undef, .undef, .undef, .undef, .undef, .undef, .undef, .undef, .undef, .undef, .undef, .undef, .undef, .undef, .undef, .undef, .undef, .undef, .undef, .undef, .undef, .undef, .undef, .undef, .undef, .undef, .undef, .undef, .undef, .undef, .undef, .undef, .undef, .undef, .undef, .undef, .undef, .undef, .undef, .undef, .undef, .undef, .undef, .undef, .undef, .undef, .undef, .undef], [some (c8.cs B), some (rows Arrival.cs S), some [.int .i64 o1.X, .int .i64 o1.Y, .int .i64 o1.Tick], some [.int .i64 o2.X, .int .i64 o2.Y, .int .i64 o2.Tick], some [.int .i64 o.X, .int .i64 o.Y, .int .i64 o.Tick], some (rows IntS.cs [0, 60, 100, 250, 400, 900]), some (rows IntS.cs [0, 80, 200, 500]), some (rows IntS.cs [0, 1, 20, 200, 1000]), some [.int .i64 n9, .int .i64 v6, .int .i64 v7, .int .i64 0, .int .i64 v8]], 1⟩),
  (17407, ⟨[.ptr 0 0, .undef, .undef, .osl 1 0 S.length 5, .ptr 2 0, .ptr 3 0, .int .i64 n, .undef, .ptr 8 0, .undef, .undef, .undef, .undef, .undef, .undef, .undef, .undef, .undef, .undef, .undef, .undef, .undef, .undef, .undef, .undef, .undef, .undef, .undef, .undef, .undef, .undef, .undef, .undef, .undef, .undef, .undef, .undef, .undef, .int .i64 m, .undef, .int .i64 v6, .undef, .int .i64 v7, .undef, .int .i64 o.X, .ptr 4 1, .undef, .undef, .undef, .undef, .ptr 0 0, .undef, .undef, .undef, .undef, .undef, .undef, .undef, .undef, .undef, .undef, .undef, .undef, .undef, .undef, .undef, .undef, .undef, .undef, .undef, .undef, .undef, .undef, .undef, .undef, .undef, .undef, .undef, .undef, .undef, .undef, .undef, .undef, .undef, .undef, .undef, .undef, .undef, .undef, .undef, .undef, .undef, .undef, .undef, .undef, .undef, .undef, .undef, .undef, .undef], [some (c8.cs B), some (rows Arrival.cs S), some [.int .i64 o1.X, .int .i64 o1.Y, .int .i64 o1.Tick], some [.int .i64 o2.X, .int .i64 o2.Y, .int .i64 o2.Tick], some [.int .i64 o.X, .int .i64 o.Y, .int .i64 o.Tick], some (rows IntS.cs [0, 60, 100, 250, 400, 900]), some (rows IntS.cs [0, 80, 200, 500]), some (rows IntS.cs [0, 1, 20, 200, 1000]), some [.int .i64 n9, .int .i64 v6, .int .i64 v7, .int .i64 0, .int .i64 v8]], 1⟩),
  (18089, ⟨[.ptr 0 0, .undef, .undef, .osl 1 0 S.length 5, .ptr 2 0, .ptr 3 0, .int .i64 n, .undef, .ptr 8 0, .undef, .undef, .undef, .undef, .undef, .undef, .undef, .undef, .undef, .undef, .undef, .undef, .undef, .undef, .undef, .undef, .undef, .undef, .undef, .undef, .undef, .undef, .undef, .undef, .undef, .undef, .undef, .ptr 4 2, .undef, .undef, .ptr 8 1, .undef, .ptr 8 2, .undef, .ptr 4 0, .undef, .undef, .int .i64 o.Y, .undef, .undef, .undef, .ptr 0 0, .undef, .undef, .undef, .undef, .undef, .undef, .undef, .undef, .undef, .undef, .undef, .undef, .undef, .undef, .undef, .undef, .undef, .undef, .undef, .undef, .undef, .undef, .undef, .undef, .undef, .undef, .undef, .undef, .undef, .undef, .undef, .undef, .undef, .undef, .undef, .undef, .undef, .undef, .undef, .undef, .undef, .undef, .undef, .undef, .undef, .undef, .undef, .undef, .undef], [some (c8.cs B), some (rows Arrival.cs S), some [.int .i64 o1.X, .int .i64 o1.Y, .int .i64 o1.Tick], some [.int .i64 o2.X, .int .i64 o2.Y, .int .i64 o2.Tick], some [.int .i64 o.X, .int .i64 o.Y, .int .i64 o.Tick], some (rows IntS.cs [0, 60, 100, 250, 400, 900]), some (rows IntS.cs [0, 80, 200, 500]), some (rows IntS.cs [0, 1, 20, 200, 1000]), some [.int .i64 n9, .int .i64 v6, .int .i64 v7, .int .i64 0, .int .i64 v8]], 1⟩),
  (18091, ⟨[.ptr 0 0, .undef, .undef, .osl 1 0 S.length 5, .ptr 2 0, .ptr 3 0, .int .i64 n, .undef, .ptr 8 0, .undef, .undef, .undef, .undef, .undef, .undef, .undef, .undef, .undef, .undef, .undef, .undef, .undef, .undef, .undef, .undef, .undef, .undef, .undef, .undef, .undef, .undef, .undef, .undef, .undef, .undef, .undef, .undef, .int .i64 o.Tick, .undef, .ptr 8 1, .undef, .ptr 8 2, .undef, .ptr 4 0, .undef, .undef, .int .i64 o.Y, .undef, .undef, .undef, .ptr 0 0, .undef, .undef, .undef, .undef, .undef, .undef, .undef, .undef, .undef, .undef, .undef, .undef, .undef, .undef, .undef, .undef, .undef, .undef, .undef, .undef, .undef, .undef, .undef, .undef, .undef, .undef, .undef, .undef, .undef, .undef, .undef, .undef, .undef, .undef, .undef, .undef, .undef, .undef, .undef, .undef, .undef, .undef, .undef, .undef, .undef, .undef, .undef, .undef, .undef], [some (c8.cs B), some (rows Arrival.cs S), some [.int .i64 o1.X, .int .i64 o1.Y, .int .i64 o1.Tick], some [.int .i64 o2.X, .int .i64 o2.Y, .int .i64 o2.Tick], some [.int .i64 o.X, .int .i64 o.Y, .int .i64 o.Tick], some (rows IntS.cs [0, 60, 100, 250, 400, 900]), some (rows IntS.cs [0, 80, 200, 500]), some (rows IntS.cs [0, 1, 20, 200, 1000]), some [.int .i64 n9, .int .i64 v6, .int .i64 v7, .int .i64 0, .int .i64 v8]], 1⟩),
  (18095, ⟨[.ptr 0 0, .undef, .undef, .osl 1 0 S.length 5, .ptr 2 0, .ptr 3 0, .int .i64 n, .undef, .ptr 8 0, .undef, .undef, .undef, .undef, .undef, .undef, .undef, .undef, .undef, .undef, .undef, .undef, .undef, .undef, .undef, .undef, .undef, .undef, .undef, .undef, .undef, .undef, .undef, .undef, .undef, .undef, .undef, .undef, .undef, .int .i64 m, .ptr 8 1, .undef, .ptr 8 2, .undef, .ptr 4 0, .undef, .undef, .int .i64 o.Y, .undef, .undef, .undef, .ptr 0 0, .undef, .undef, .undef, .undef, .undef, .undef, .undef, .undef, .undef, .undef, .undef, .undef, .undef, .undef, .undef, .undef, .undef, .undef, .undef, .undef, .undef, .undef, .undef, .undef, .undef, .undef, .undef, .undef, .undef, .undef, .undef, .undef, .undef, .undef, .undef, .undef, .undef, .undef, .undef, .undef, .undef, .undef, .undef, .undef, .undef, .undef, .undef, .undef, .undef], [some (c8.cs B), some (rows Arrival.cs S), some [.int .i64 o1.X, .int .i64 o1.Y, .int .i64 o1.Tick], some [.int .i64 o2.X, .int .i64 o2.Y, .int .i64 o2.Tick], some [.int .i64 o.X, .int .i64 o.Y, .int .i64 o.Tick], some (rows IntS.cs [0, 60, 100, 250, 400, 900]), some (rows IntS.cs [0, 80, 200, 500]), some (rows IntS.cs [0, 1, 20, 200, 1000]), some [.int .i64 n9, .int .i64 v6, .int .i64 v7, .int .i64 0, .int .i64 v8]], 1⟩),
  (18105, ⟨[.ptr 0 0, .undef, .undef, .osl 1 0 S.length 5, .ptr 2 0, .ptr 3 0, .int .i64 n, .undef, .ptr 8 0, .undef, .undef, .undef, .undef, .undef, .undef, .undef, .undef, .undef, .undef, .undef, .undef, .undef, .undef, .undef, .undef, .undef, .undef, .undef, .undef, .undef, .undef, .undef, .undef, .undef, .undef, .undef, .ptr 4 2, .undef, .undef, .undef, .int .i64 v6, .ptr 8 2, .undef, .ptr 4 0, .undef, .undef, .int .i64 o.Y, .undef, .undef, .undef, .ptr 0 0, .undef, .undef, .undef, .undef, .undef, .undef, .undef, .undef, .undef, .undef, .undef, .undef, .undef, .undef, .undef, .undef, .undef, .undef, .undef, .undef, .undef, .undef, .undef, .undef, .undef, .undef, .undef, .undef, .undef, .undef, .undef, .undef, .undef, .undef, .undef, .undef, .undef, .undef, .undef, .undef, .undef, .undef, .undef, .undef, .undef, .undef, .undef, .undef, .undef], [some (c8.cs B), some (rows Arrival.cs S), some [.int .i64 o1.X, .int .i64 o1.Y, .int .i64 o1.Tick], some [.int .i64 o2.X, .int .i64 o2.Y, .int .i64 o2.Tick], some [.int .i64 o.X, .int .i64 o.Y, .int .i64 o.Tick], some (rows IntS.cs [0, 60, 100, 250, 400, 900]), some (rows IntS.cs [0, 80, 200, 500]), some (rows IntS.cs [0, 1, 20, 200, 1000]), some [.int .i64 n9, .int .i64 v6, .int .i64 v7, .int .i64 0, .int .i64 v8]], 1⟩),
  (18107, ⟨[.ptr 0 0, .undef, .undef, .osl 1 0 S.length 5, .ptr 2 0, .ptr 3 0, .int .i64 n, .undef, .ptr 8 0, .undef, .undef, .undef, .undef, .undef, .undef, .undef, .undef, .undef, .undef, .undef, .undef, .undef, .undef, .undef, .undef, .undef, .undef, .undef, .undef, .undef, .undef, .undef, .undef, .undef, .undef, .undef, .undef, .int .i64 o.Tick, .undef, .undef, .int .i64 v6, .ptr 8 2, .undef, .ptr 4 0, .undef, .undef, .int .i64 o.Y, .undef, .undef, .undef, .ptr 0 0, .undef, .undef, .undef, .undef, .undef, .undef, .undef, .undef, .undef, .undef, .undef, .undef, .undef, .undef, .undef, .undef, .undef, .undef, .undef, .undef, .undef, .undef, .undef, .undef, .undef, .undef, .undef, .undef, .undef, .undef, .undef, .undef, .undef, .undef, .undef, .undef, .undef, .undef, .undef, .undef, .undef, .undef, .undef, .undef, .undef, .undef, .undef, .undef, .undef], [some (c8.cs B), some (rows Arrival.cs S), some [.int .i64 o1.X, .int .i64 o1.Y, .int .i64 o1.Tick], some [.int .i64 o2.X, .int .i64 o2.Y, .int .i64 o2.Tick], some [.int .i64 o.X, .int .i64 o.Y, .int .i64 o.Tick], some (rows IntS.cs [0, 60, 100, 250, 400, 900]), some (rows IntS.cs [0, 80, 200, 500]), some (rows IntS.cs [0, 1, 20, 200, 1000]), some [.int .i64 n9, .int .i64 v6, .int .i64 v7, .int .i64 0, .int .i64 v8]], 1⟩),
  (18111, ⟨[.ptr 0 0, .undef, .undef, .osl 1 0 S.length 5, .ptr 2 0, .ptr 3 0, .int .i64 n, .undef, .ptr 8 0, .undef, .undef, .undef, .undef, .undef, .undef, .undef, .undef, .undef, .undef, .undef, .undef, .undef, .undef, .undef, .undef, .undef, .undef, .undef, .undef, .undef, .undef, .undef, .undef, .undef, .undef, .undef, .undef, .undef, .int .i64 m, .undef, .int .i64 v6, .ptr 8 2, .undef, .ptr 4 0, .undef, .undef, .int .i64 o.Y, .undef, .undef, .undef, .ptr 0 0, .undef, .undef, .undef, .undef, .undef, .undef, .undef, .undef, .undef, .undef, .undef, .undef, .undef, .undef, .undef, .undef, .undef, .undef, .undef, .undef, .undef, .undef, .undef, .undef, .undef, .undef, .undef, .undef, .undef, .undef, .undef, .undef, .undef, .undef, .undef, .undef, .undef, .undef, .undef, .undef, .undef, .undef, .undef, .undef, .undef, .undef, .undef, .undef, .undef], [some (c8.cs B), some (rows Arrival.cs S), some [.int .i64 o1.X, .int .i64 o1.Y, .int .i64 o1.Tick], some [.int .i64 o2.X, .int .i64 o2.Y, .int .i64 o2.Tick], some [.int .i64 o.X, .int .i64 o.Y, .int .i64 o.Tick], some (rows IntS.cs [0, 60, 100, 250, 400, 900]), some (rows IntS.cs [0, 80, 200, 500]), some (rows IntS.cs [0, 1, 20, 200, 1000]), some [.int .i64 n9, .int .i64 v6, .int .i64 v7, .int .i64 0, .int .i64 v8]], 1⟩),
  (18153, ⟨[.ptr 0 0, .undef, .undef, .osl 1 0 S.length 5, .ptr 2 0, .ptr 3 0, .int .i64 n, .undef, .ptr 8 0, .undef, .undef, .undef, .undef, .undef, .undef, .undef, .undef, .undef, .undef, .undef, .undef, .undef, .undef, .undef, .undef, .undef, .undef, .undef, .undef, .undef, .undef, .undef, .undef, .undef, .undef, .undef, .ptr 4 2, .undef, .undef, .ptr 8 1, .undef, .undef, .int .i64 v7, .ptr 4 0, .undef, .undef, .int .i64 o.Y, .undef, .undef, .undef, .ptr 0 0, .undef, .undef, .undef, .undef, .undef, .undef, .undef, .undef, .undef, .undef, .undef, .undef, .undef, .undef, .undef, .undef, .undef, .undef, .undef, .undef, .undef, .undef, .undef, .undef, .undef, .undef, .undef, .undef, .undef, .undef, .undef, .undef, .undef, .undef, .undef, .undef, .undef, .undef, .undef, .undef, .undef, .undef, .undef, .undef, .undef, .undef, .undef, .undef, .undef], [some (c8.cs B), some (rows Arrival.cs S), some [.int .i64 o1.X, .int .i64 o1.Y, .int .i64 o1.Tick], some [.int .i64 o2.X, .int .i64 o2.Y, .int .i64 o2.Tick], some [.int .i64 o.X, .int .i64 o.Y, .int .i64 o.Tick], some (rows IntS.cs [0, 60, 100, 250, 400, 900]), some (rows IntS.cs [0, 80, 200, 500]), some (rows IntS.cs [0, 1, 20, 200, 1000]), some [.int .i64 n9, .int .i64 v6, .int .i64 v7, .int .i64 0, .int .i64 v8]], 1⟩),
  (18155, ⟨[.ptr 0 0, .undef, .undef, .osl 1 0 S.length 5, .ptr 2 0, .ptr 3 0, .int .i64 n, .undef, .ptr 8 0, .undef, .undef, .undef, .undef, .undef, .undef, .undef, .undef, .undef, .undef, .undef, .undef, .undef, .undef, .undef, .undef, .undef, .undef, .undef, .undef, .undef, .undef, .undef, .undef, .undef, .undef, .undef, .undef, .int .i64 o.Tick, .undef, .ptr 8 1, .undef, .undef, .int .i64 v7, .ptr 4 0, .undef, .undef, .int .i64 o.Y, .undef, .undef, .undef, .ptr 0 0, .undef, .undef, .undef, .undef, .undef, .undef, .undef, .undef, .undef, .undef, .undef, .undef, .undef, .undef, .undef, .undef, .undef, .undef, .undef, .undef, .undef, .undef, .undef, .undef, .undef, .undef, .undef, .undef, .undef, .undef, .undef, .undef, .undef, .undef, .undef, .undef, .undef, .undef, .undef, .undef, .undef, .undef, .undef, .undef, .undef, .undef, .undef, .undef, .undef], [some (c8.cs B), some (rows Arrival.cs S), some [.int .i64 o1.X, .int .i64 o1.Y, .int .i64 o1.Tick], some [.int .i64 o2.X, .int .i64 o2.Y, .int .i64 o2.Tick], some [.int .i64 o.X, .int .i64 o.Y, .int .i64 o.Tick], some (rows IntS.cs [0, 60, 100, 250, 400, 900]), some (rows IntS.cs [0, 80, 200, 500]), some (rows IntS.cs [0, 1, 20, 200, 1000]), some [.int .i64 n9, .int .i64 v6, .int .i64 v7, .int .i64 0, .int .i64 v8]], 1⟩),
  (18159, ⟨[.ptr 0 0, .undef, .undef, .osl 1 0 S.length 5, .ptr 2 0, .ptr 3 0, .int .i64 n, .undef, .ptr 8 0, .undef, .undef, .undef, .undef, .undef, .undef, .undef, .undef, .undef, .undef, .undef, .undef, .undef, .undef, .undef, .undef, .undef, .undef, .undef, .undef, .undef, .undef, .undef, .undef, .undef, .undef, .undef, .undef, .undef, .int .i64 m, .ptr 8 1, .undef, .undef, .int .i64 v7, .ptr 4 0, .undef, .undef, .int .i64 o.Y, .undef, .undef, .undef, .ptr 0 0, .undef, .undef, .undef, .undef, .undef, .undef, .undef, .undef, .undef, .undef, .undef, .undef, .undef, .undef, .undef, .undef, .undef, .undef, .undef, .undef, .undef, .undef, .undef, .undef, .undef, .undef, .undef, .undef, .undef, .undef, .undef, .undef, .undef, .undef, .undef, .undef, .undef, .undef, .undef, .undef, .undef, .undef, .undef, .undef, .undef, .undef, .undef, .undef, .undef], [some (c8.cs B), some (rows Arrival.cs S), some [.int .i64 o1.X, .int .i64 o1.Y, .int .i64 o1.Tick], some [.int .i64 o2.X, .int .i64 o2.Y, .int .i64 o2.Tick], some [.int .i64 o.X, .int .i64 o.Y, .int .i64 o.Tick], some (rows IntS.cs [0, 60, 100, 250, 400, 900]), some (rows IntS.cs [0, 80, 200, 500]), some (rows IntS.cs [0, 1, 20, 200, 1000]), some [.int .i64 n9, .int .i64 v6, .int .i64 v7, .int .i64 0, .int .i64 v8]], 1⟩),
  (18169, ⟨[.ptr 0 0, .undef, .undef, .osl 1 0 S.length 5, .ptr 2 0, .ptr 3 0, .int .i64 n, .undef, .ptr 8 0, .undef, .undef, .undef, .undef, .undef, .undef, .undef, .undef, .undef, .undef, .undef, .undef, .undef, .undef, .undef, .undef, .undef, .undef, .undef, .undef, .undef, .undef, .undef, .undef, .undef, .undef, .undef, .ptr 4 2, .undef, .undef, .undef, .int .i64 v6, .undef, .int .i64 v7, .ptr 4 0, .undef, .undef, .int .i64 o.Y, .undef, .undef, .undef, .ptr 0 0, .undef, .undef, .undef, .undef, .undef, .undef, .undef, .undef, .undef, .undef, .undef, .undef, .undef, .undef, .undef, .undef, .undef, .undef, .undef, .undef, .undef, .undef, .undef, .undef, .undef, .undef, .undef, .undef, .undef, .undef, .undef, .undef, .undef, .undef, .undef, .undef, .undef, .undef, .undef, .undef, .undef, .undef, .undef, .undef, .undef, .undef, .undef, .undef, .undef], [some (c8.cs B), some (rows Arrival.cs S), some [.int .i64 o1.X, .int .i64 o1.Y, .int .i64 o1.Tick], some [.int .i64 o2.X, .int .i64 o2.Y, .int .i64 o2.Tick], some [.int .i64 o.X, .int .i64 o.Y, .int .i64 o.Tick], some (rows IntS.cs [0, 60, 100, 250, 400, 900]), some (rows IntS.cs [0, 80, 200, 500]), some (rows IntS.cs [0, 1, 20, 200, 1000]), some [.int .i64 n9, .int .i64 v6, .int .i64 v7, .int .i64 0, .int .i64 v8]], 1⟩),
  (18171, ⟨[.ptr 0 0, .undef, .undef, .osl 1 0 S.length 5, .ptr 2 0, .ptr 3 0, .int .i64 n, .undef, .ptr 8 0, .undef, .undef, .undef, .undef, .undef, .undef, .undef, .undef, .undef, .undef, .undef, .undef, .undef, .undef, .undef, .undef, .undef, .undef, .undef, .undef, .undef, .undef, .undef, .undef, .undef, .undef, .undef, .undef, .int .i64 o.Tick, .undef, .undef, .int .i64 v6, .undef, .int .i64 v7, .ptr 4 0, .undef, .undef, .int .i64 o.Y, .undef, .undef, .undef, .ptr 0 0, .undef, .undef, .undef, .undef, .undef, .undef, .undef, .undef, .undef, .undef, .undef, .undef, .undef, .undef, .undef, .undef, .undef, .undef, .undef, .undef, .undef, .undef, .undef, .undef, .undef, .undef, .undef, .undef, .undef, .undef, .undef, .undef, .undef, .undef, .undef, .undef, .undef, .undef, .undef, .undef, .undef, .undef, .undef, .undef, .undef, .undef, .undef, .undef, .undef], [some (c8.cs B), some (rows Arrival.cs S), some [.int .i64 o1.X, .int .i64 o1.Y, .int .i64 o1.Tick], some [.int .i64 o2.X, .int .i64 o2.Y, .int .i64 o2.Tick], some [.int .i64 o.X, .int .i64 o.Y, .int .i64 o.Tick], some (rows IntS.cs [0, 60, 100, 250, 400, 900]), some (rows IntS.cs [0, 80, 200, 500]), some (rows IntS.cs [0, 1, 20, 200, 1000]), some [.int .i64 n9, .int .i64 v6, .int .i64 v7, .int .i64 0, .int .i64 v8]], 1⟩),
  (18175, ⟨[.ptr 0 0, .undef, .undef, .osl 1 0 S.length 5, .ptr 2 0, .ptr 3 0, .int .i64 n, .undef, .ptr 8 0, .undef, .undef, .undef, .undef, .undef, .undef, .undef, .undef, .undef, .undef, .undef, .undef, .undef, .undef, .undef, .undef, .undef, .undef, .undef, .undef, .undef, .undef, .undef, .undef, .undef, .undef, .undef, .undef, .undef, .int .i64 m, .undef, .int .i64 v6, .undef, .int .i64 v7, .ptr 4 0, .undef, .undef, .int .i64 o.Y, .undef, .undef, .undef, .ptr 0 0, .undef, .undef, .undef, .undef, .undef, .undef, .undef, .undef, .undef, .undef, .undef, .undef, .undef, .undef, .undef, .undef, .undef, .undef, .undef, .undef, .undef, .undef, .undef, .undef, .undef, .undef, .undef, .undef, .undef, .undef, .undef, .undef, .undef, .undef, .undef, .undef, .undef, .undef, .undef, .undef, .undef, .undef, .undef, .undef, .undef, .undef, .undef, .undef, .undef], [some (c8.cs B), some (rows Arrival.cs S), some [.int .i64 o1.X, .int .i64 o1.Y, .int .i64 o1.Tick], some [.int .i64 o2.X, .int .i64 o2.Y, .int .i64 o2.Tick], some [.int .i64 o.X, .int .i64 o.Y, .int .i64 o.Tick], some (rows IntS.cs [0, 60, 100, 250, 400, 900]), some (rows IntS.cs [0, 80, 200, 500]), some (rows IntS.cs [0, 1, 20, 200, 1000]), some [.int .i64 n9, .int .i64 v6, .int .i64 v7, .int .i64 0, .int .i64 v8]], 1⟩),
  (18345, ⟨[.ptr 0 0, .undef, .undef, .osl 1 0 S.length 5, .ptr 2 0, .ptr 3 0, .int .i64 n, .undef, .ptr 8 0, .undef, .undef, .undef, .undef, .undef, .undef, .undef, .undef, .undef, .undef, .undef, .undef, .undef, .undef, .undef, .undef, .undef, .undef, .undef, .undef, .undef, .undef, .undef, .undef, .undef, .undef, .undef, .ptr 4 2, .undef, .undef, .ptr 8 1, .undef, .ptr 8 2, .undef, .undef, .int .i64 o.X, .undef, .int .i64 o.Y, .undef, .undef, .undef, .ptr 0 0, .undef, .undef, .undef, .undef, .undef, .undef, .undef, .undef, .undef, .undef, .undef, .undef, .undef, .undef, .undef, .undef, .undef, .undef, .undef, .undef, .undef, .undef, .undef, .undef, .undef, .undef, .undef, .undef, .undef, .undef, .undef, .undef, .undef, .undef, .undef, .undef, .undef, .undef, .undef, .undef, .undef, .undef, .undef, .undef, .undef, .undef, .undef, .undef, .undef], [some (c8.cs B), some (rows Arrival.cs S), some [.int .i64 o1.X, .int .i64 o1.Y, .int .i64 o1.Tick], some [.int .i64 o2.X, .int .i64 o2.Y, .int .i64 o2.Tick], some [.int .i64 o.X, .int .i64 o.Y, .int .i64 o.Tick], some (rows IntS.cs [0, 60, 100, 250, 400, 900]), some (rows IntS.cs [0, 80, 200, 500]), some (rows IntS.cs [0, 1, 20, 200, 1000]), some [.int .i64 n9, .int .i64 v6, .int .i64 v7, .int .i64 0, .int .i64 v8]], 1⟩),
  (18347, ⟨[.ptr 0 0, .undef, .undef, .osl 1 0 S.length 5, .ptr 2 0, .ptr 3 0, .int .i64 n, .undef, .ptr 8 0, .undef, .undef, .undef, .undef, .undef, .undef, .undef, .undef, .undef, .undef, .undef, .undef, .undef, .undef, .undef, .undef, .undef, .undef, .undef, .undef, .undef, .undef, .undef, .undef, .undef, .undef, .undef, .undef, .int .i64 o.Tick, .undef, .ptr 8 1, .undef, .ptr 8 2, .undef, .undef, .int .i64 o.X, .undef, .int .i64 o.Y, .undef, .undef, .undef, .ptr 0 0, .undef, .undef, .undef, .undef, .undef, .undef, .undef, .undef, .undef, .undef, .undef, .undef, .undef, .undef, .undef, .undef, .undef, .undef, .undef, .undef, .undef, .undef, .undef, .undef, .undef, .undef, .undef, .undef, .undef, .undef, .undef, .undef, .undef, .undef, .undef, .undef, .undef, .undef, .undef, .undef, .undef, .undef, .undef, .undef, .undef, .undef, .undef, .undef, .undef], [some (c8.cs B), some (rows Arrival.cs S), some [.int .i64 o1.X, .int .i64 o1.Y, .int .i64 o1.Tick], some [.int .i64 o2.X, .int .i64 o2.Y, .int .i64 o2.Tick], some [.int .i64 o.X, .int .i64 o.Y, .int .i64 o.Tick], some (rows IntS.cs [0, 60, 100, 250, 400, 900]), some (rows IntS.cs [0, 80, 200, 500]), some (rows IntS.cs [0, 1, 20, 200, 1000]), some [.int .i64 n9, .int .i64 v6, .int .i64 v7, .int .i64 0, .int .i64 v8]], 1⟩),
  (18351, ⟨[.ptr 0 0, .undef, .undef, .osl 1 0 S.length 5, .ptr 2 0, .ptr 3 0, .int .i64 n, .undef, .ptr 8 0, .undef, .undef, .undef, .undef, .undef, .undef, .undef, .undef, .undef, .undef, .undef, .undef, .undef, .undef, .undef, .undef, .undef, .undef, .undef, .undef, .undef, .undef, .undef, .undef, .undef, .undef, .undef, .undef, .undef, .int .i64 m, .ptr 8 1, .undef, .ptr 8 2, .undef, .undef, .int .i64 o.X, .undef, .int .i64 o.Y, .undef, .undef, .undef, .ptr 0 0, .undef, .undef, .undef, .undef, .undef, .undef, .undef, .undef, .undef, .undef, .undef, .undef, .undef, .undef, .undef, .undef, .undef, .undef, .undef, .undef, .undef, .undef, .undef, .undef, .undef, .undef, .undef, .undef, .undef, .undef, .undef, .undef, .undef, .undef, .undef, .undef, .undef, .undef, .undef, .undef, .undef, .undef, .undef, .undef, .undef, .undef, .undef, .undef, .undef], [some (c8.cs B), some (rows Arrival.cs S), some [.int .i64 o1.X, .int .i64 o1.Y, .int .i64 o1.Tick], some [.int .i64 o2.X, .int .i64 o2.Y, .int .i64 o2.Tick], some [.int .i64 o.X, .int .i64 o.Y, .int .i64 o.Tick], some (rows IntS.cs [0, 60, 100, 250, 400, 900]), some (rows IntS.cs [0, 80, 200, 500]), some (rows IntS.cs [0, 1, 20, 200, 1000]), some [.int .i64 n9, .int .i64 v6, .int .i64 v7, .int .i64 0, .int .i64 v8]], 1⟩),
  (18361, ⟨[.ptr 0 0, .undef, .undef, .osl 1 0 S.length 5, .ptr 2 0, .ptr 3 0, .int .i64 n, .undef, .ptr 8 0, .undef, .undef, .undef, .undef, .undef, .undef, .undef, .undef, .undef, .undef, .undef, .undef, .undef, .undef, .undef, .undef, .undef, .undef, .undef, .undef, .undef, .undef, .undef, .undef, .undef, .undef, .undef, .ptr 4 2, .undef, .undef, .undef, .int .i64 v6, .ptr 8 2, .undef, .undef, .int .i64 o.X, .undef, .int .i64 o.Y, .undef, .undef, .undef, .ptr 0 0, .undef, .undef, .undef, .undef, .undef, .undef, .undef, .undef, .undef, .undef, .undef, .undef, .undef, .undef, .undef, .undef, .undef, .undef, .undef, .undef, .undef, .undef, .undef, .undef, .undef, .undef, .undef, .undef, .undef, .undef, .undef, .undef, .undef, .undef, .undef, .undef, .undef, .undef, .undef, .undef, .undef, .undef, .undef, .undef, .undef, .undef, .undef, .undef, .undef], [some (c8.cs B), some (rows Arrival.cs S), some [.int .i64 o1.X, .int .i64 o1.Y, .int .i64 o1.Tick], some [.int .i64 o2.X, .int .i64 o2.Y, .int .i64 o2.Tick], some [.int .i64 o.X, .int .i64 o.Y, .int .i64 o.Tick], some (rows IntS.cs [0, 60, 100, 250, 400, 900]), some (rows IntS.cs [0, 80, 200, 500]), some (rows IntS.cs [0, 1, 20, 200, 1000]), some [.int .i64 n9, .int .i64 v6, .int .i64 v7, .int .i64 0, .int .i64 v8]], 1⟩),
  (18363, ⟨[.ptr 0 0, .undef, .undef, .osl 1 0 S.length 5, .ptr 2 0, .ptr 3 0, .int .i64 n, .undef, .ptr 8 0, .undef, .undef, .undef, .undef, .undef, .undef, .undef, .undef, .undef, .undef, .undef, .undef, .undef, .undef, .undef, .undef, .undef, .undef, .undef, .undef, .undef, .undef, .undef, .undef, .undef, .undef, .undef, .undef, .int .i64 o.Tick, .undef, .undef, .int .i64 v6, .ptr 8 2, .undef, .undef, .int .i64 o.X, .undef, .int .i64 o.Y, .undef, .undef, .undef, .ptr 0 0, .undef, .undef, .undef, .undef, .undef, .undef, .undef, .undef, .undef, .undef, .undef, .undef, .undef, .undef, .undef, .undef, .undef, .undef, .undef, .undef, .undef, .undef, .undef, .undef, .undef, .undef, .undef, .undef, .undef, .undef, .undef, .undef, .undef, .undef, .undef, .undef, .undef, .undef, .undef, .undef, .undef, .undef, .undef, .undef, .undef, .undef, .undef, .undef, .undef], [some (c8.cs B), some (rows Arrival.cs S), some [.int .i64 o1.X, .int .i64 o1.Y, .int .i64 o1.Tick], some [.int .i64 o2.X, .int .i64 o2.Y, .int .i64 o2.Tick], some [.int .i64 o.X, .int .i64 o.Y, .int .i64 o.Tick], some (rows IntS.cs [0, 60, 100, 250, 400, 900]), some (rows IntS.cs [0, 80, 200, 500]), some (rows IntS.cs [0, 1, 20, 200, 1000]), some [.int .i64 n9, .int .i64 v6, .int .i64 v7, .int .i64 0, .int .i64 v8]], 1⟩),
  (18367, ⟨[.ptr 0 0, .undef, .undef, .osl 1 0 S.length 5, .ptr 2 0, .ptr 3 0, .int .i64 n, .undef, .ptr 8 0, .undef, .undef, .undef, .undef, .undef, .undef, .undef, .undef, .undef, .undef, .undef, .undef, .undef, .undef, .undef, .undef, .undef, .undef, .undef, .undef, .undef, .undef, .undef, .undef, .undef, .undef, .undef, .undef, .undef, .int .i64 m, .undef, .int .i64 v6, .ptr 8 2, .undef, .undef, .int .i64 o.X, .undef, .int .i64 o.Y, .undef, .undef, .undef, .ptr 0 0, .undef, .undef, .undef, .undef, .undef, .undef, .undef, .undef, .undef, .undef, .undef, .undef, .undef, .undef, .undef, .undef, .undef, .undef, .undef, .undef, .undef, .undef, .undef, .undef, .undef, .undef, .undef, .undef, .undef, .undef, .undef, .undef, .undef, .undef, .undef, .undef, .undef, .undef, .undef, .undef, .undef, .undef, .undef, .undef, .undef, .undef, .undef, .undef, .undef], [some (c8.cs B), some (rows Arrival.cs S), some [.int .i64 o1.X, .int .i64 o1.Y, .int .i64 o1.Tick], some [.int .i64 o2.X, .int .i64 o2.Y, .int .i64 o2.Tick], some [.int .i64 o.X, .int .i64 o.Y, .int .i64 o.Tick], some (rows IntS.cs [0, 60, 100, 250, 400, 900]), some (rows IntS.cs [0, 80, 200, 500]), some (rows IntS.cs [0, 1, 20, 200, 1000]), some [.int .i64 n9, .int .i64 v6, .int .i64 v7, .int .i64 0, .int .i64 v8]], 1⟩),
  (18409, ⟨[.ptr 0 0, .undef, .undef, .osl 1 0 S.length 5, .ptr 2 0, .ptr 3 0, .int .i64 n, .undef, .ptr 8 0, .undef, .undef, .undef, .undef, .undef, .undef, .undef, .undef, .undef, .undef, .undef, .undef, .undef, .undef, .undef, .undef, .undef, .undef, .undef, .undef, .undef, .undef, .undef, .undef, .undef, .undef, .undef, .ptr 4 2, .undef, .undef, .ptr 8 1, .undef, .undef, .int .i64 v7, .undef, .int .i64 o.X, .undef, .int .i64 o.Y, .undef, .undef, .undef, .ptr 0 0, .undef, .undef, .undef, .undef, .undef, .undef, .undef, .undef, .undef, .undef, .undef, .undef, .undef, .undef, .undef, .undef, .undef, .undef, .undef, .undef, .undef, .undef, .undef, .undef, .undef, .undef, .undef, .undef, .undef, .undef, .undef, .undef, .undef, .undef, .undef, .undef, .undef, .undef, .undef, .undef, .undef, .undef, .undef, .undef, .undef, .undef, .undef, .undef, .undef], [some (c8.cs B), some (rows Arrival.cs S), some [.int .i64 o1.X, .int .i64 o1.Y, .int .i64 o1.Tick], some [.int .i64 o2.X, .int .i64 o2.Y, .int .i64 o2.Tick], some [.int .i64 o.X, .int .i64 o.Y, .int .i64 o.Tick], some (rows IntS.cs [0, 60, 100, 250, 400, 900]), some (rows IntS.cs [0, 80, 200, 500]), some (rows IntS.cs [0, 1, 20, 200, 1000]), some [.int .i64 n9, .int .i64 v6, .int .i64 v7, .int .i64 0, .int .i64 v8]], 1⟩),
  (18411, ⟨[.ptr 0 0, .undef, .undef, .osl 1 0 S.length 5, .ptr 2 0, .ptr 3 0, .int .i64 n, .undef, .ptr 8 0, .undef, .undef, .undef, .undef, .undef, .undef, .undef, .undef, .undef, .undef, .undef, .undef, .undef, .undef, .undef, .undef, .undef, .undef, .undef, .undef, .undef, .undef, .undef, .undef, .undef, .undef, .undef, .undef, .int .i64 o.Tick, .undef, .ptr 8 1, .undef, .undef, .int .i64 v7, .undef, .int .i64 o.X, .undef, .int .i64 o.Y, .undef, .undef, .undef, .ptr 0 0, .undef, .undef, .undef, .undef, .undef, .undef, .undef, .undef, .undef, .undef, .undef, .undef, .undef, .undef, .undef, .undef, .undef, .undef, .undef, .undef, .undef, .undef, .undef, .undef, .undef, .undef, .undef, .undef, .undef, .undef, .undef, .undef, .undef, .undef, .undef, .undef, .undef, .undef, .undef, .undef, .undef, .undef, .undef, .undef, .undef, .undef, .undef, .undef, .undef], [some (c8.cs B), some (rows Arrival.cs S), some [.int .i64 o1.X, .int .i64 o1.Y, .int .i64 o1.Tick], some [.int .i64 o2.X, .int .i64 o2.Y, .int .i64 o2.Tick], some [.int .i64 o.X, .int .i64 o.Y, .int .i64 o.Tick], some (rows IntS.cs [0, 60, 100, 250, 400, 900]), some (rows IntS.cs [0, 80, 200, 500]), some (rows IntS.cs [0, 1, 20, 200, 1000]), some [.int .i64 n9, .int .i64 v6, .int .i64 v7, .int .i64 0, .int .i64 v8]], 1⟩),
  (18415, ⟨[.ptr 0 0, .undef, .undef, .osl 1 0 S.length 5, .ptr 2 0, .ptr 3 0, .int .i64 n, .undef, .ptr 8 0, .undef, .undef, .undef, .undef, .undef, .undef, .undef, .undef, .undef, .undef, .undef, .undef, .undef, .undef, .undef, .undef, .undef, .undef, .undef, .undef, .undef, .undef, .undef, .undef, .undef, .undef, .undef, .undef, .undef, .int .i64 m, .ptr 8 1, .undef, .undef, .int .i64 v7, .undef, .int .i64 o.X, .undef, .int .i64 o.Y, .undef, .undef, .undef, .ptr 0 0, .undef, .undef, .undef, .undef, .undef, .undef, .undef, .undef, .undef, .undef, .undef, .undef, .undef, .undef, .undef, .undef, .undef, .undef, .undef, .undef, .undef, .undef, .undef, .undef, .undef, .undef, .undef, .undef, .undef, .undef, .undef, .undef, .undef, .undef, .undef, .undef, .undef, .undef, .undef, .undef, .undef, .undef, .undef, .undef, .undef, .undef, .undef, .undef, .undef], [some (c8.cs B), some (rows Arrival.cs S), some [.int .i64 o1.X, .int .i64 o1.Y, .int .i64 o1.Tick], some [.int .i64 o2.X, .int .i64 o2.Y, .int .i64 o2.Tick], some [.int .i64 o.X, .int .i64 o.Y, .int .i64 o.Tick], some (rows IntS.cs [0, 60, 100, 250, 400, 900]), some (rows IntS.cs [0, 80, 200, 500]), some (rows IntS.cs [0, 1, 20, 200, 1000]), some [.int .i64 n9, .int .i64 v6, .int .i64 v7, .int .i64 0, .int .i64 v8]], 1⟩),
  (18425, ⟨[.ptr 0 0, .undef, .undef, .osl 1 0 S.length 5, .ptr 2 0, .ptr 3 0, .int .i64 n, .undef, .ptr 8 0, .undef, .undef, .undef, .undef, .undef, .undef, .undef, .undef, .undef, .undef, .undef, .undef, .undef, .undef, .undef, .undef, .undef, .undef, .undef, .undef, .undef, .undef, .undef, .undef, .undef, .undef, .undef, .ptr 4 2, .undef, .undef, .undef, .int .i64 v6, .undef, .int .i64 v7, .undef, .int .i64 o.X, .undef, .int .i64 o.Y, .undef, .undef, .undef, .ptr 0 0, .undef, .undef, .undef, .undef, .undef, .undef, .undef, .undef, .undef, .undef, .undef, .undef, .undef, .undef, .undef, .undef, .undef, .undef, .undef, .undef, .undef, .undef, .undef, .undef, .undef, .undef, .undef, .undef, .undef, .undef, .undef, .undef, .undef, .undef, .undef, .undef, .undef, .undef, .undef, .undef, .undef, .undef, .undef, .undef, .undef, .undef, .undef, .undef, .undef], [some (c8.cs B), some (rows Arrival.cs S), some [.int .i64 o1.X, .int .i64 o1.Y, .int .i64 o1.Tick], some [.int .i64 o2.X, .int .i64 o2.Y, .int .i64 o2.Tick], some [.int .i64 o.X, .int .i64 o.Y, .int .i64 o.Tick], some (rows IntS.cs [0, 60, 100, 250, 400, 900]), some (rows IntS.cs [0, 80, 200, 500]), some (rows IntS.cs [0, 1, 20, 200, 1000]), some [.int .i64 n9, .int .i64 v6, .int .i64 v7, .int .i64 0, .int .i64 v8]], 1⟩),
  (18427, ⟨[.ptr 0 0, .undef, .undef, .osl 1 0 S.length 5, .ptr 2 0, .ptr 3 0, .int .i64 n, .undef, .ptr 8 0, .undef, .undef, .undef, .undef, .undef, .undef, .undef, .undef, .undef, .undef, .undef, .undef, .undef, .undef, .undef, .undef, .undef, .undef, .undef, .undef, .undef, .undef, .undef, .undef, .undef, .undef, .undef, .undef, .int .i64 o.Tick, .undef, .undef, .int .i64 v6, .undef, .int .i64 v7, .undef, .int .i64 o.X, .undef, .int .i64 o.Y, .undef, .undef, .undef, .ptr 0 0, .undef, .undef, .undef, .undef, .undef, .undef, .undef, .undef, .undef, .undef, .undef, .undef, .undef, .undef, .undef, .undef, .undef, .undef, .undef, .undef, .undef, .undef, .undef, .undef, .undef, .undef, .undef, .undef, .undef, .undef, .undef, .undef, .undef, .undef, .undef, .undef, .undef, .undef, .undef, .undef, .undef, .undef, .undef, .undef, .undef, .undef, .undef, .undef, .undef], [some (c8.cs B), some (rows Arrival.cs S), some [.int .i64 o1.X, .int .i64 o1.Y, .int .i64 o1.Tick], some [.int .i64 o2.X, .int .i64 o2.Y, .int .i64 o2.Tick], some [.int .i64 o.X, .int .i64 o.Y, .int .i64 o.Tick], some (rows IntS.cs [0, 60, 100, 250, 400, 900]), some (rows IntS.cs [0, 80, 200, 500]), some (rows IntS.cs [0, 1, 20, 200, 1000]), some [.int .i64 n9, .int .i64 v6, .int .i64 v7, .int .i64 0, .int .i64 v8]], 1⟩),
  (18431, ⟨[.ptr 0 0, .undef, .undef, .osl 1 0 S.length 5, .ptr 2 0, .ptr 3 0, .int .i64 n, .undef, .ptr 8 0, .undef, .undef, .undef, .undef, .undef, .undef, .undef, .undef, .undef, .undef, .undef, .undef, .undef, .undef, .undef, .undef, .undef, .undef, .undef, .undef, .undef, .undef, .undef, .undef, .undef, .undef, .undef, .undef, .undef, .int .i64 m, .undef, .int .i64 v6, .undef, .int .i64 v7, .undef, .int .i64 o.X, .undef, .int .i64 o.Y, .undef, .undef, .undef, .ptr 0 0, .undef, .undef, .undef, .undef, .undef, .undef, .undef, .undef, .undef, .undef, .undef, .undef, .undef, .undef, .undef, .undef, .undef, .undef, .undef, .undef, .undef, .undef, .undef, .undef, .undef, .undef, .undef, .undef, .undef, .undef, .undef, .undef, .undef, .undef, .undef, .undef, .undef, .undef, .undef, .undef, .undef, .undef, .undef, .undef, .undef, .undef, .undef, .undef, .undef], [some (c8.cs B), some (rows Arrival.cs S), some [.int .i64 o1.X, .int .i64 o1.Y, .int .i64 o1.Tick], some [.int .i64 o2.X, .int .i64 o2.Y, .int .i64 o2.Tick], some [.int .i64 o.X, .int .i64 o.Y, .int .i64 o.Tick], some (rows IntS.cs [0, 60, 100, 250, 400, 900]), some (rows IntS.cs [0, 80, 200, 500]), some (rows IntS.cs [0, 1, 20, 200, 1000]), some [.int .i64 n9, .int .i64 v6, .int .i64 v7, .int .i64 0, .int .i64 v8]], 1⟩),
  (20479, ⟨[.ptr 0 0, .undef, .undef, .osl 1 0 S.length 5, .ptr 2 0, .ptr 3 0, .int .i64 n, .undef, .ptr 8 0, .undef, .undef, .undef, .undef, .undef, .undef, .undef, .undef, .undef, .undef, .undef, .undef, .undef, .undef, .undef, .undef, .undef, .undef, .undef, .undef, .undef, .undef, .undef, .undef, .undef, .undef, .undef, .undef, .undef, .int .i64 m, .undef, .undef, .undef, .undef, .undef, .undef, .undef, .undef, .int .i64 q, .undef, .undef, .ptr 0 0, .undef, .undef, .undef, .undef, .undef, .undef, .undef, .undef, .undef, .undef, .undef, .undef, .undef, .undef, .undef, .undef, .undef, .undef, .undef, .undef, .undef, .undef, .undef, .undef, .undef, .undef, .undef, .undef, .undef, .undef, .undef, .undef, .undef, .undef, .undef, .undef, .undef, .undef, .undef, .undef, .undef, .undef, .undef, .undef, .undef, .undef, .undef, .undef, .undef], [some (c8.cs B), some (rows Arrival.cs S), some [.int .i64 o1.X, .int .i64 o1.Y, .int .i64 o1.Tick], some [.int .i64 o2.X, .int .i64 o2.Y, .int .i64 o2.Tick], some [.int .i64 o.X, .int .i64 o.Y, .int .i64 o.Tick], some (rows IntS.cs [0, 60, 100, 250, 400, 900]), some (rows IntS.cs [0, 80, 200, 500]), some (rows IntS.cs [0, 1, 20, 200, 1000]), some [.int .i64 n9, .int .i64 v6, .int .i64 v7, .int .i64 0, .int .i64 v8]], 1⟩),
  (24575, ⟨[.ptr 0 0, .undef, .undef, .osl 1 0 S.length 5, .ptr 2 0, .ptr 3 0, .int .i64 n, .undef, .ptr 8 0, .undef, .undef, .undef, .undef, .undef, .undef, .undef, .undef, .undef, .undef, .undef, .undef, .undef, .undef, .undef, .undef, .undef, .undef, .undef, .undef, .undef, .undef, .undef, .undef, .undef, .undef, .undef, .undef, .undef, .int .i64 m, .undef, .undef, .undef, .undef, .undef, .undef, .undef, .undef, .undef, .int .i64 rt, .undef, .ptr 0 0, .undef, .undef, .undef, .undef, .undef, .undef, .undef, .undef, .undef, .undef, .undef, .undef, .undef, .undef, .undef, .undef, .undef, .undef, .undef, .undef, .undef, .undef, .undef, .undef, .undef, .undef, .undef, .undef, .undef, .undef, .undef, .undef, .undef, .undef, .undef, .undef, .undef, .undef, .undef, .undef, .undef, .undef, .undef, .undef, .undef, .undef, .undef, .undef, .undef], [some (c8.cs B), some (rows Arrival.cs S), some [.int .i64 o1.X, .int .i64 o1.Y, .int .i64 o1.Tick], some [.int .i64 o2.X, .int .i64 o2.Y, .int .i64 o2.Tick], some [.int .i64 o.X, .int .i64 o.Y, .int .i64 o.Tick], some (rows IntS.cs [0, 60, 100, 250, 400, 900]), some (rows IntS.cs [0, 80, 200, 500]), some (rows IntS.cs [0, 1, 20, 200, 1000]), some [.int .i64 n9, .int .i64 v6, .int .i64 v7, .int .i64 0, .int .i64 v8]], 1⟩),
  (32767, ⟨[.ptr 0 0, .undef, .undef, .osl 1 0 S.length 5, .ptr 2 0, .ptr 3 0, .int .i64 n, .undef, .ptr 8 0, .undef, .undef, .undef, .undef, .undef, .undef, .undef, .undef, .undef, .undef, .undef, .undef, .undef, .undef, .undef, .undef, .undef, .undef, .undef, .undef, .undef, .undef, .undef, .undef, .undef, .undef, .undef, .undef, .undef, .undef, .undef, .undef, .undef, .undef, .undef, .undef, .undef, .undef, .undef, .undef, .int .i64 (m + rt), .ptr 0 0, .undef, .undef, .undef, .undef, .undef, .undef, .undef, .undef, .undef, .undef, .undef, .undef, .undef, .undef, .undef, .undef, .undef, .undef, .undef, .undef, .undef, .undef, .undef, .undef, .undef, .undef, .undef, .undef, .undef, .undef, .undef, .undef, .undef, .undef, .undef, .undef, .undef, .undef, .undef, .undef, .undef, .undef, .undef, .undef, .undef, .undef, .undef, .undef, .undef], [some (c8.cs B), some (rows Arrival.cs S), some [.int .i64 o1.X, .int .i64 o1.Y, .int .i64 o1.Tick], some [.int .i64 o2.X, .int .i64 o2.Y, .int .i64 o2.Tick], some [.int .i64 o.X, .int .i64 o.Y, .int .i64 o.Tick], some (rows IntS.cs [0, 60, 100, 250, 400, 900]), some (rows IntS.cs [0, 80, 200, 500]), some (rows IntS.cs [0, 1, 20, 200, 1000]), some [.int .i64 n9, .int .i64 v6, .int .i64 v7, .int .i64 0, .int .i64 v8]], 1⟩),
  (49833, ⟨[.ptr 0 0, .undef, .undef, .osl 1 0 S.length 5, .ptr 2 0, .ptr 3 0, .int .i64 n, .undef, .ptr 8 0, .undef, .undef, .undef, .undef, .undef, .undef, .undef, .undef, .undef, .undef, .undef, .undef, .undef, .undef, .undef, .undef, .undef, .undef, .undef, .undef, .undef, .undef, .undef, .undef, .undef, .undef, .undef, .ptr 4 2, .undef, .undef, .ptr 8 1, .undef, .ptr 8 2, .undef, .ptr 4 0, .undef, .ptr 4 1, .undef, .undef, .undef, .undef, .ptr 0 0, .osl 9 0 5 1, .undef, .undef, .undef, .undef, .undef, .undef, .undef, .undef, .undef, .undef, .undef, .undef, .undef, .undef, .undef, .undef, .undef, .undef, .undef, .undef, .undef, .undef, .undef, .undef, .undef, .undef, .undef, .undef, .undef, .undef, .undef, .undef, .undef, .undef, .undef, .undef, .undef, .undef, .undef, .undef, .undef, .undef, .undef, .undef, .undef, .undef, .undef, .undef], [some (c8.cs B), some (rows Arrival.cs S), some [.int .i64 o1.X, .int .i64 o1.Y, .int .i64 o1.Tick], some [.int .i64 o2.X, .int .i64 o2.Y, .int .i64 o2.Tick], some [.int .i64 o.X, .int .i64 o.Y, .int .i64 o.Tick], some (rows IntS.cs [0, 60, 100, 250, 400, 900]), some (rows IntS.cs [0, 80, 200, 500]), some (rows IntS.cs [0, 1, 20, 200, 1000]), some [.int .i64 n9, .int .i64 v6, .int .i64 v7, .int .i64 0, .int .i64 v8], some (rows IntS.cs [0, 0, 1, 15, -30])], 1⟩),
  (49835, ⟨[.ptr 0 0, .undef, .undef, .osl 1 0 S.length 5, .ptr 2 0, .ptr 3 0, .int .i64 n, .undef, .ptr 8 0, .undef, .undef, .undef, .undef, .undef, .undef, .undef, .undef, .undef, .undef, .undef, .undef, .undef, .undef, .undef, .undef, .undef, .undef, .undef, .undef, .undef, .undef, .undef, .undef, .undef, .undef, .undef, .undef, .int .i64 o.Tick, .undef, .ptr 8 1, .undef, .ptr 8 2, .undef, .ptr 4 0, .undef, .ptr 4 1, .undef, .undef, .undef, .undef, .ptr 0 0, .osl 9 0 5 1, .undef, .undef, .undef, .undef, .undef, .undef, .undef, .undef, .undef, .undef, .undef, .undef, .undef, .undef, .undef, .undef, .undef, .undef, .undef, .undef, .undef, .undef, .undef, .undef, .undef, .undef, .undef, .undef, .undef, .undef, .undef, .undef, .undef, .undef, .undef, .undef, .undef, .undef, .undef, .undef, .undef, .undef, .undef, .undef, .undef, .undef, .undef, .undef], [some (c8.cs B), some (rows Arrival.cs S), some [.int .i64 o1.X, .int .i64 o1.Y, .int .i64 o1.Tick], some [.int .i64 o2.X, .int .i64 o2.Y, .int .i64 o2.Tick], some [.int .i64 o.X, .int .i64 o.Y, .int .i64 o.Tick], some (rows IntS.cs [0, 60, 100, 250, 400, 900]), some (rows IntS.cs [0, 80, 200, 500]), some (rows IntS.cs [0, 1, 20, 200, 1000]), some [.int .i64 n9, .int .i64 v6, .int .i64 v7, .int .i64 0, .int .i64 v8], some (rows IntS.cs [0, 0, 1, 15, -30])], 1⟩),
  (49839, ⟨[.ptr 0 0, .undef, .undef, .osl 1 0 S.length 5, .ptr 2 0, .ptr 3 0, .int .i64 n, .undef, .ptr 8 0, .undef, .undef, .undef, .undef, .undef, .undef, .undef, .undef, .undef, .undef, .undef, .undef, .undef, .undef, .undef, .undef, .undef, .undef, .undef, .undef, .undef, .undef, .undef, .undef, .undef, .undef, .undef, .undef, .undef, .int .i64 m, .ptr 8 1, .undef, .ptr 8 2, .undef, .ptr 4 0, .undef, .ptr 4 1, .undef, .undef, .undef, .undef, .ptr 0 0, .osl 9 0 5 1, .undef, .undef, .undef, .undef, .undef, .undef, .undef, .undef, .undef, .undef, .undef, .undef, .undef, .undef, .undef, .undef, .undef, .undef, .undef, .undef, .undef, .undef, .undef, .undef, .undef, .undef, .undef, .undef, .undef, .undef, .undef, .undef, .undef, .undef, .undef, .undef, .undef, .undef, .undef, .undef, .undef, .undef, .undef, .undef, .undef, .undef, .undef, .undef], [some (c8.cs B), some (rows Arrival.cs S), some [.int .i64 o1.X, .int .i64 o1.Y, .int .i64 o1.Tick], some [.int .i64 o2.X, .int .i64 o2.Y, .int .i64 o2.Tick], some [.int .i64 o.X, .int .i64 o.Y, .int .i64 o.Tick], some (rows IntS.cs [0, 60, 100, 250, 400, 900]), some (rows IntS.cs [0, 80, 200, 500]), some (rows IntS.cs [0, 1, 20, 200, 1000]), some [.int .i64 n9, .int .i64 v6, .int .i64 v7, .int .i64 0, .int .i64 v8], some (rows IntS.cs [0, 0, 1, 15, -30])], 1⟩),
  (49849, ⟨[.ptr 0 0, .undef, .undef, .osl 1 0 S.length 5, .ptr 2 0, .ptr 3 0, .int .i64 n, .undef, .ptr 8 0, .undef, .undef, .undef, .undef, .undef, .undef, .undef, .undef, .undef, .undef, .undef, .undef, .undef, .undef, .undef, .undef, .undef, .undef, .undef, .undef, .undef, .undef, .undef, .undef, .undef, .undef, .undef, .ptr 4 2, .undef, .undef, .undef, .int .i64 v6, .ptr 8 2, .undef, .ptr 4 0, .undef, .ptr 4 1, .undef, .undef, .undef, .undef, .ptr 0 0, .osl 9 0 5 1, .undef, .undef, .undef, .undef, .undef, .undef, .undef, .undef, .undef, .undef, .undef, .undef, .undef, .undef, .undef, .undef, .undef, .undef, .undef, .undef, .undef, .undef, .undef, .undef, .undef, .undef, .undef, .undef, .undef, .undef, .undef, .undef, .undef, .undef, .undef, .undef, .undef, .undef, .undef, .undef, .undef, .undef, .undef, .undef, .undef, .undef, .undef, .undef], [some (c8.cs B), some (rows Arrival.cs S), some [.int .i64 o1.X, .int .i64 o1.Y, .int .i64 o1.Tick], some [.int .i64 o2.X, .int .i64 o2.Y, .int .i64 o2.Tick], some [.int .i64 o.X, .int .i64 o.Y, .int .i64 o.Tick], some (rows IntS.cs [0, 60, 100, 250, 400, 900]), some (rows IntS.cs [0, 80, 200, 500]), some (rows IntS.cs [0, 1, 20, 200, 1000]), some [.int .i64 n9, .int .i64 v6, .int .i64 v7, .int .i64 0, .int .i64 v8], some (rows IntS.cs [0, 0, 1, 15, -30])], 1⟩),
  (49851, ⟨[.ptr 0 0, .undef, .undef, .osl 1 0 S.length 5, .ptr 2 0, .ptr 3 0, .int .i64 n, .undef, .ptr 8 0, .undef, .undef, .undef, .undef, .undef, .undef, .undef, .undef, .undef, .undef, .undef, .undef, .undef, .undef, .undef, .undef, .undef, .undef, .undef, .undef, .undef, .undef, .undef, .undef, .undef, .undef, .undef, .undef, .int .i64 o.Tick, .undef, .undef, .int .i64 v6, .ptr 8 2, .undef, .ptr 4 0, .undef, .ptr 4 1, .undef, .undef, .undef, .undef, .ptr 0 0, .osl 9 0 5 1, .undef, .undef, .undef, .undef, .undef, .undef, .undef, .undef, .undef, .undef, .undef, .undef, .undef, .undef, .undef, .undef, .undef, .undef, .undef, .undef, .undef, .undef, .undef, .undef, .undef, .undef, .undef, .undef, .undef, .undef, .undef, .undef, .undef, .undef, .undef, .undef, .undef, .undef, .undef, .undef, .undef, .undef, .undef, .undef, .undef, .undef, .undef, .undef], [some (c8.cs B), some (rows Arrival.cs S), some [.int .i64 o1.X, .int .i64 o1.Y, .int .i64 o1.Tick], some [.int .i64 o2.X, .int .i64 o2.Y, .int .i64 o2.Tick], some [.int .i64 o.X, .int .i64 o.Y, .int .i64 o.Tick], some (rows IntS.cs [0, 60, 100, 250, 400, 900]), some (rows IntS.cs [0, 80, 200, 500]), some (rows IntS.cs [0, 1, 20, 200, 1000]), some [.int .i64 n9, .int .i64 v6, .int .i64 v7, .int .i64 0, .int .i64 v8], some (rows IntS.cs [0, 0, 1, 15, -30])], 1⟩),
  (49855, ⟨[.ptr 0 0, .undef, .undef, .osl 1 0 S.length 5, .ptr 2 0, .ptr 3 0, .int .i64 n, .undef, .ptr 8 0, .undef, .undef, .undef, .undef, .undef, .undef, .undef, .undef, .undef, .undef, .undef, .undef, .undef, .undef, .undef, .undef, .undef, .undef, .undef, .undef, .undef, .undef, .undef, .undef, .undef, .undef, .undef, .undef, .undef, .int .i64 m, .undef, .int .i64 v6, .ptr 8 2, .undef, .ptr 4 0, .undef, .ptr 4 1, .undef, .undef, .undef, .undef, .ptr 0 0, .osl 9 0 5 1, .undef, .undef, .undef, .undef, .undef, .undef, .undef, .undef, .undef, .undef, .undef, .undef, .undef, .undef, .undef, .undef, .undef, .undef, .undef, .undef, .undef, .undef, .undef, .undef, .undef, .undef, .undef, .undef, .undef, .undef, .undef, .undef, .undef, .undef, .undef, .undef, .undef, .undef, .undef, .undef, .undef, .undef, .undef, .undef, .undef, .undef, .undef, .undef], [some (c8.cs B), some (rows Arrival.cs S), some [.int .i64 o1.X, .int .i64 o1.Y, .int .i64 o1.Tick], some [.int .i64 o2.X, .int .i64 o2.Y, .int .i64 o2.Tick], some [.int .i64 o.X, .int .i64 o.Y, .int .i64 o.Tick], some (rows IntS.cs [0, 60, 100, 250, 400, 900]), some (rows IntS.cs [0, 80, 200, 500]), some (rows IntS.cs [0, 1, 20, 200, 1000]), some [.int .i64 n9, .int .i64 v6, .int .i64 v7, .int .i64 0, .int .i64 v8], some (rows IntS.cs [0, 0, 1, 15, -30])], 1⟩),
  (49897, ⟨[.ptr 0 0, .undef, .undef, .osl 1 0 S.length 5, .ptr 2 0, .ptr 3 0, .int .i64 n, .undef, .ptr 8 0, .undef, .undef, .undef, .undef, .undef, .undef, .undef, .undef, .undef, .undef, .undef, .undef, .undef, .undef, .undef, .undef, .undef, .undef, .undef, .undef, .undef, .undef, .undef, .undef, .undef, .undef, .undef, .ptr 4 2, .undef, .undef, .ptr 8 1, .undef, .undef, .int .i64 v7, .ptr 4 0, .undef, .ptr 4 1, .undef, .undef, .undef, .undef, .ptr 0 0, .osl 9 0 5 1, .undef, .undef, .undef, .undef, .undef, .undef, .undef, .undef, .undef, .undef, .undef, .undef, .undef, .undef, .undef, .undef, .undef, .undef, .undef, .undef, .undef, .undef, .undef, .undef, .undef, .undef, .undef, .undef, .undef, .undef, .undef, .undef, .undef, .undef, .undef, .undef, .undef, .undef, .undef, .undef, .undef, .undef, .undef, .undef, .undef, .undef, .undef, .undef], [some (c8.cs B), some (rows Arrival.cs S), some [.int .i64 o1.X, .int .i64 o1.Y, .int .i64 o1.Tick], some [.int .i64 o2.X, .int .i64 o2.Y, .int .i64 o2.Tick], some [.int .i64 o.X, .int .i64 o.Y, .int .i64 o.Tick], some (rows IntS.cs [0, 60, 100, 250, 400, 900]), some (rows IntS.cs [0, 80, 200, 500]), some (rows IntS.cs [0, 1, 20, 200, 1000]), some [.int .i64 n9, .int .i64 v6, .int .i64 v7, .int .i64 0, .int .i64 v8], some (rows IntS.cs [0, 0, 1, 15, -30])], 1⟩),
  (49899, ⟨[.ptr 0 0, .undef, .undef, .osl 1 0 S.length 5, .ptr 2 0, .ptr 3 0, .int .i64 n, .undef, .ptr 8 0, .undef, .undef, .undef, .undef, .undef, .undef, .undef, .undef, .undef, .undef, .undef, .undef, .undef, .undef, .undef, .undef, .undef, .undef, .undef, .undef, .undef, .undef, .undef, .undef, .undef, .undef, .undef, .undef, .int .i64 o.Tick, .undef, .ptr 8 1, .undef, .undef, .int .i64 v7, .ptr 4 0, .undef, .ptr 4 1, .undef, .undef, .undef, .undef, .ptr 0 0, .osl 9 0 5 1, .undef, .undef, .undef, .undef, .undef, .undef, .undef, .undef, .undef, .undef, .undef, .undef, .undef, .undef, .undef, .undef, .undef, .undef, .undef, .undef, .undef, .undef, .undef, .undef, .undef, .undef, .undef, .undef, .undef, .undef, .undef, .undef, .undef, .undef, .undef, .undef, .undef, .undef, .undef, .undef, .undef, .undef, .undef, .undef, .undef, .undef, .undef, .undef], [some (c8.cs B), some (rows Arrival.cs S), some [.int .i64 o1.X, .int .i64 o1.Y, .int .i64 o1.Tick], some [.int .i64 o2.X, .int .i64 o2.Y, .int .i64 o2.Tick], some [.int .i64 o.X, .int .i64 o.Y, .int .i64 o.Tick], some (rows IntS.cs [0, 60, 100, 250, 400, 900]), some (rows IntS.cs [0, 80, 200, 500]), some (rows IntS.cs [0, 1, 20, 200, 1000]), some [.int .i64 n9, .int .i64 v6, .int .i64 v7, .int .i64 0, .int .i64 v8], some (rows IntS.cs [0, 0, 1, 15, -30])], 1⟩),
  (49903, ⟨[.ptr 0 0, .undef, .undef, .osl 1 0 S.length 5, .ptr 2 0, .ptr 3 0, .int .i64 n, .undef, .ptr 8 0, .undef, .undef, .undef, .undef, .undef, .undef, .undef, .undef, .undef, .undef, .undef, .undef, .undef, .undef, .undef, .undef, .undef, .undef, .undef, .undef, .undef, .undef, .undef, .undef, .undef, .undef, .undef, .undef, .undef, .int .i64 m, .ptr 8 1, .undef, .undef, .int .i64 v7, .ptr 4 0, .undef, .ptr 4 1, .undef, .undef, .undef, .undef, .ptr 0 0, .osl 9 0 5 1, .undef, .undef, .undef, .undef, .undef, .undef, .undef, .undef, .undef, .undef, .undef, .undef, .undef, .undef, .undef, .undef, .undef, .undef, .undef, .undef, .undef, .undef, .undef, .undef, .undef, .undef, .undef, .undef, .undef, .undef, .undef, .undef, .undef, .undef, .undef, .undef, .undef, .undef, .undef, .undef, .undef, .undef, .undef, .undef, .undef, .undef, .undef, .undef], [some (c8.cs B), some (rows Arrival.cs S), some [.int .i64 o1.X, .int .i64 o1.Y, .int .i64 o1.Tick], some [.int .i64 o2.X, .int .i64 o2.Y, .int .i64 o2.Tick], some [.int .i64 o.X, .int .i64 o.Y, .int .i64 o.Tick], some (rows IntS.cs [0, 60, 100, 250, 400, 900]), some (rows IntS.cs [0, 80, 200, 500]), some (rows IntS.cs [0, 1, 20, 200, 1000]), some [.int .i64 n9, .int .i64 v6, .int .i64 v7, .int .i64 0, .int .i64 v8], some (rows IntS.cs [0, 0, 1, 15, -30])], 1⟩),
  (49913, ⟨[.ptr 0 0, .undef, .undef, .osl 1 0 S.length 5, .ptr 2 0, .ptr 3 0, .int .i64 n, .undef, .ptr 8 0, .undef, .undef, .undef, .undef, .undef, .undef, .undef, .undef, .undef, .undef, .undef, .undef, .undef, .undef, .undef, .undef, .undef, .undef, .undef, .undef, .undef, .undef, .undef, .undef, .undef, .undef, .undef, .ptr 4 2, .undef, .undef, .undef, .int .i64 v6, .undef, .int .i64 v7, .ptr 4 0, .undef, .ptr 4 1, .undef, .undef, .undef, .undef, .ptr 0 0, .osl 9 0 5 1, .undef, .undef, .undef, .undef, .undef, .undef, .undef, .undef, .undef, .undef, .undef, .undef, .undef, .undef, .undef, .undef, .undef, .undef, .undef, .undef, .undef, .undef, .undef, .undef, .undef, .undef, .undef, .undef, .undef, .undef, .undef, .undef, .undef, .undef, .undef, .undef, .undef, .undef, .undef, .undef, .undef, .undef, .undef, .undef, .undef, .undef, .undef, .undef], [some (c8.cs B), some (rows Arrival.cs S), some [.int .i64 o1.X, .int .i64 o1.Y, .int .i64 o1.Tick], some [.int .i64 o2.X, .int .i64 o2.Y, .int .i64 o2.Tick], some [.int .i64 o.X, .int .i64 o.Y, .int .i64 o.Tick], some (rows IntS.cs [0, 60, 100, 250, 400, 900]), some (rows IntS.cs [0, 80, 200, 500]), some (rows IntS.cs [0, 1, 20, 200, 1000]), some [.int .i64 n9, .int .i64 v6, .int .i64 v7, .int .i64 0, .int .i64 v8], some (rows IntS.cs [0, 0, 1, 15, -30])], 1⟩),
  (49915, ⟨[.ptr 0 0, .undef, .undef, .osl 1 0 S.length 5, .ptr 2 0, .ptr 3 0, .int .i64 n, .undef, .ptr 8 0, .undef, .undef, .undef, .undef, .undef, .undef, .undef, .undef, .undef, .undef, .undef, .undef, .undef, .undef, .undef, .undef, .undef, .undef, .undef, .undef, .undef, .undef, .undef, .undef, .undef, .undef, .undef, .undef, .int .i64 o.Tick, .undef, .undef, .int .i64 v6, .undef, .int .i64 v7, .ptr 4 0, .undef, .ptr 4 1, .undef, .undef, .undef, .undef, .ptr 0 0, .osl 9 0 5 1, .undef, .undef, .undef, .undef, .undef, .undef, .undef, .undef, .undef, .undef, .undef, .undef, .undef, .undef, .undef, .undef, .undef, .undef, .undef, .undef, .undef, .undef, .undef, .undef, .undef, .undef, .undef, .undef, .undef, .undef, .undef, .undef, .undef, .undef, .undef, .undef, .undef, .undef, .undef, .undef, .undef, .undef, .undef, .undef, .undef, .undef, .undef, .undef], [some (c8.cs B), some (rows Arrival.cs S), some [.int .i64 o1.X, .int .i64 o1.Y, .int .i64 o1.Tick], some [.int .i64 o2.X, .int .i64 o2.Y, .int .i64 o2.Tick], some [.int .i64 o.X, .int .i64 o.Y, .int .i64 o.Tick], some (rows IntS.cs [0, 60, 100, 250, 400, 900]), some (rows IntS.cs [0, 80, 200, 500]), some (rows IntS.cs [0, 1, 20, 200, 1000]), some [.int .i64 n9, .int .i64 v6, .int .i64 v7, .int .i64 0, .int .i64 v8], some (rows IntS.cs [0, 0, 1, 15, -30])], 1⟩),
  (49919, ⟨[.ptr 0 0, .undef, .undef, .osl 1 0 S.length 5, .ptr 2 0, .ptr 3 0, .int .i64 n, .undef, .ptr 8 0, .undef, .undef, .undef, .undef, .undef, .undef, .undef, .undef, .undef, .undef, .undef, .undef, .undef, .undef, .undef, .undef, .undef, .undef, .undef, .undef, .undef, .undef, .undef, .undef, .undef, .undef, .undef, .undef, .undef, .int .i64 m, .undef, .int .i64 v6, .undef, .int .i64 v7, .ptr 4 0, .undef, .ptr 4 1, .undef, .undef, .undef, .undef, .ptr 0 0, .osl 9 0 5 1, .undef, .undef, .undef, .undef, .undef, .undef, .undef, .undef, .undef, .undef, .undef, .undef, .undef, .undef, .undef, .undef, .undef, .undef, .undef, .undef, .undef, .undef, .undef, .undef, .undef, .undef, .undef, .undef, .undef, .undef, .undef, .undef, .undef, .undef, .undef, .undef, .undef, .undef, .undef, .undef, .undef, .undef, .undef, .undef, .undef, .undef, .undef, .undef], [some (c8.cs B), some (rows Arrival.cs S), some [.int .i64 o1.X, .int .i64 o1.Y, .int .i64 o1.Tick], some [.int .i64 o2.X, .int .i64 o2.Y, .int .i64 o2.Tick], some [.int .i64 o.X, .int .i64 o.Y, .int .i64 o.Tick], some (rows IntS.cs [0, 60, 100, 250, 400, 900]), some (rows IntS.cs [0, 80, 200, 500]), some (rows IntS.cs [0, 1, 20, 200, 1000]), some [.int .i64 n9, .int .i64 v6, .int .i64 v7, .int .i64 0, .int .i64 v8], some (rows IntS.cs [0, 0, 1, 15, -30])], 1⟩),
  (50089, ⟨[.ptr 0 0, .undef, .undef, .osl 1 0 S.length 5, .ptr 2 0, .ptr 3 0, .int .i64 n, .undef, .ptr 8 0, .undef, .undef, .undef, .undef, .undef, .undef, .undef, .undef, .undef, .undef, .undef, .undef, .undef, .undef, .undef, .undef, .undef, .undef, .undef, .undef, .undef, .undef, .undef, .undef, .undef, .undef, .undef, .ptr 4 2, .undef, .undef, .ptr 8 1, .undef, .ptr 8 2, .undef, .undef, .int .i64 o.X, .ptr 4 1, .undef, .undef, .undef, .undef, .ptr 0 0, .osl 9 0 5 1, .undef, .undef, .undef, .undef, .undef, .undef, .undef, .undef, .undef, .undef, .undef, .undef, .undef, .undef, .undef, .undef, .undef, .undef, .undef, .undef, .undef, .undef, .undef, .undef, .undef, .undef, .undef, .undef, .undef, .undef, .undef, .undef, .undef, .undef, .undef, .undef, .undef, .undef, .undef, .undef, .undef, .undef, .undef, .undef, .undef, .undef, .undef, .undef], [some (c8.cs B), some (rows Arrival.cs S), some [.int .i64 o1.X, .int .i64 o1.Y, .int .i64 o1.Tick], some [.int .i64 o2.X, .int .i64 o2.Y, .int .i64 o2.Tick], some [.int .i64 o.X, .int .i64 o.Y, .int .i64 o.Tick], some (rows IntS.cs [0, 60, 100, 250, 400, 900]), some (rows IntS.cs [0, 80, 200, 500]), some (rows IntS.cs [0, 1, 20, 200, 1000]), some [.int .i64 n9, .int .i64 v6, .int .i64 v7, .int .i64 0, .int .i64 v8], some (rows IntS.cs [0, 0, 1, 15, -30])], 1⟩),
  (50091, ⟨[.ptr 0 0, .undef, .undef, .osl 1 0 S.length 5, .ptr 2 0, .ptr 3 0, .int .i64 n, .undef, .ptr 8 0, .undef, .undef, .undef, .undef, .undef, .undef, .undef, .undef, .undef, .undef, .undef, .undef, .undef, .undef, .undef, .undef, .undef, .undef, .undef, .undef, .undef, .undef, .undef, .undef, .undef, .undef, .undef, .undef, .int .i64 o.Tick, .undef, .ptr 8 1, .undef, .ptr 8 2, .undef, .undef, .int .i64 o.X, .ptr 4 1, .undef, .undef, .undef, .undef, .ptr 0 0, .osl 9 0 5 1, .undef, .undef, .undef, .undef, .undef, .undef, .undef, .undef, .undef, .undef, .undef, .undef, .undef, .undef, .undef, .undef, .undef, .undef, .undef, .undef, .undef, .undef, .undef, .undef, .undef, .undef, .undef, .undef, .undef, .undef, .undef, .undef, .undef, .undef, .undef, .undef, .undef, .undef, .undef, .undef, .undef, .undef, .undef, .undef, .undef, .undef, .undef, .undef], [some (c8.cs B), some (rows Arrival.cs S), some [.int .i64 o1.X, .int .i64 o1.Y, .int .i64 o1.Tick], some [.int .i64 o2.X, .int .i64 o2.Y, .int .i64 o2.Tick], some [.int .i64 o.X, .int .i64 o.Y, .int .i64 o.Tick], some (rows IntS.cs [0, 60, 100, 250, 400, 900]), some (rows IntS.cs [0, 80, 200, 500]), some (rows IntS.cs [0, 1, 20, 200, 1000]), some [.int .i64 n9, .int .i64 v6, .int .i64 v7, .int .i64 0, .int .i64 v8], some (rows IntS.cs [0, 0, 1, 15, -30])], 1⟩),
  (50095, ⟨[.ptr 0 0, .undef, .undef, .osl 1 0 S.length 5, .ptr 2 0, .ptr 3 0, .int .i64 n, .undef, .ptr 8 0, .undef, .undef, .undef, .undef, .undef, .undef, .undef, .undef, .undef, .undef, .undef, .undef, .undef, .undef, .undef, .undef, .undef, .undef, .undef, .undef, .undef, .undef, .undef, .undef, .undef, .undef, .undef, .undef, .undef, .int .i64 m, .ptr 8 1, .undef, .ptr 8 2, .undef, .undef, .int .i64 o.X, .ptr 4 1, .undef, .undef, .undef, .undef, .ptr 0 0, .osl 9 0 5 1, .undef, .undef, .undef, .undef, .undef, .undef, .undef, .undef, .undef, .undef, .undef, .undef, .undef, .undef, .undef, .undef, .undef, .undef, .undef, .undef, .undef, .undef, .undef, .undef, .undef, .undef, .undef, .undef, .undef, .undef, .undef, .undef, .undef, .undef, .undef, .undef, .undef, .undef, .undef, .undef, .undef, .undef, .undef, .undef, .undef, .undef, .undef, .undef], [some (c8.cs B), some (rows Arrival.cs S), some [.int .i64 o1.X, .int .i64 o1.Y, .int .i64 o1.Tick], some [.int .i64 o2.X, .int .i64 o2.Y, .int .i64 o2.Tick], some [.int .i64 o.X, .int .i64 o.Y, .int .i64 o.Tick], some (rows IntS.cs [0, 60, 100, 250, 400, 900]), some (rows IntS.cs [0, 80, 200, 500]), some (rows IntS.cs [0, 1, 20, 200, 1000]), some [.int .i64 n9, .int .i64 v6, .int .i64 v7, .int .i64 0, .int .i64 v8], some (rows IntS.cs [0, 0, 1, 15, -30])], 1⟩),
  (50105, ⟨[.ptr 0 0, .undef, .undef, .osl 1 0 S.length 5, .ptr 2 0, .ptr 3 0, .int .i64 n, .undef, .ptr 8 0, .undef, .undef, .undef, .undef, .undef, .undef, .undef, .undef, .undef, .undef, .undef, .undef, .undef, .undef, .undef, .undef, .undef, .undef, .undef, .undef, .undef, .undef, .undef, .undef, .undef, .undef, .undef, .ptr 4 2, .undef, .undef, .undef, .int .i64 v6, .ptr 8 2, .undef, .undef, .int .i64 o.X, .ptr 4 1, .undef, .undef, .undef, .undef, .ptr 0 0, .osl 9 0 5 1, .undef, .undef, .undef, .undef, .undef, .undef, .undef, .undef, .undef, .undef, .undef, .undef, .undef, .undef, .undef, .undef, .undef, .undef, .undef, .undef, .undef, .undef, .undef, .undef, .undef, .undef, .undef, .undef, .undef, .undef, .undef, .undef, .undef, .undef, .undef, .undef, .undef, .undef, .undef, .undef, .undef, .undef, .undef, .undef, .undef, .undef, .undef, .undef], [some (c8.cs B), some (rows Arrival.cs S), some [.int .i64 o1.X, .int .i64 o1.Y, .int .i64 o1.Tick], some [.int .i64 o2.X, .int .i64 o2.Y, .int .i64 o2.Tick], some [.int .i64 o.X, .int .i64 o.Y, .int .i64 o.Tick], some (rows IntS.cs [0, 60, 100, 250, 400, 900]), some (rows IntS.cs [0, 80, 200, 500]), some (rows IntS.cs [0, 1, 20, 200, 1000]), some [.int .i64 n9, .int .i64 v6, .int .i64 v7, .int .i64 0, .int .i64 v8], some (rows IntS.cs [0, 0, 1, 15, -30])], 1⟩),
  (50107, ⟨[.ptr 0 0, .undef, .undef, .osl 1 0 S.length 5, .ptr 2 0, .ptr 3 0, .int .i64 n, .undef, .ptr 8 0, .undef, .undef, .undef, .undef, .undef, .undef, .undef, .undef, .undef, .undef, .undef, .undef, .undef, .undef, .undef, .undef, .undef, .undef, .undef, .undef, .undef, .undef, .undef, .undef, .undef, .undef, .undef, .undef, .int .i64 o.Tick, .undef, .undef, .int .i64 v6, .ptr 8 2, .undef, .undef, .int .i64 o.X, .ptr 4 1, .undef, .undef, .undef, .undef, .ptr 0 0, .osl 9 0 5 1, .undef, .undef, .undef, .undef, .undef, .undef, .undef, .undef, .undef, .undef, .undef, .undef, .undef, .undef, .undef, .undef, .undef, .undef, .undef, .undef, .undef, .undef, .undef, .undef, .undef, .undef, .undef, .undef, .undef, .undef, .undef, .undef, .undef, .undef, .undef, .undef, .undef, .undef, .undef, .undef, .undef, .undef, .undef, .undef, .undef, .undef, .undef, .undef], [some (c8.cs B), some (rows Arrival.cs S), some [.int .i64 o1.X, .int .i64 o1.Y, .int .i64 o1.Tick], some [.int .i64 o2.X, .int .i64 o2.Y, .int .i64 o2.Tick], some [.int .i64 o.X, .int .i64 o.Y, .int .i64 o.Tick], some (rows IntS.cs [0, 60, 100, 250, 400, 900]), some (rows IntS.cs [0, 80, 200, 500]), some (rows IntS.cs [0, 1, 20, 200, 1000]), some [.int .i64 n9, .int .i64 v6, .int .i64 v7, .int .i64 0, .int .i64 v8], some (rows IntS.cs [0, 0, 1, 15, -30])], 1⟩),
  (50111, ⟨[.ptr 0 0, .undef, .undef, .osl 1 0 S.length 5, .ptr 2 0, .ptr 3 0, .int .i64 n, .undef, .ptr 8 0, .undef, .undef, .undef, .undef, .undef, .undef, .undef, .undef, .undef, .undef, .undef, .undef, .undef, .undef, .undef, .undef, .undef, .undef, .undef, .undef, .undef, .undef, .undef, .undef, .undef, .undef, .undef, .undef, .undef, .int .i64 m, .undef, .int .i64 v6, .ptr 8 2, .undef, .undef, .int .i64 o.X, .ptr 4 1, .undef, .undef, .undef, .undef, .ptr 0 0, .osl 9 0 5 1, .undef, .undef, .undef, .undef, .undef, .undef, .undef, .undef, .undef, .undef, .undef, .undef, .undef, .undef, .undef, .undef, .undef, .undef, .undef, .undef, .undef, .undef, .undef, .undef, .undef, .undef, .undef, .undef, .undef, .undef, .undef, .undef, .undef, .undef, .undef, .undef, .undef, .undef, .undef, .undef, .undef, .undef, .undef, .undef, .undef, .undef, .undef, .undef], [some (c8.cs B), some (rows Arrival.cs S), some [.int .i64 o1.X, .int .i64 o1.Y, .int .i64 o1.Tick], some [.int .i64 o2.X, .int .i64 o2.Y, .int .i64 o2.Tick], some [.int .i64 o.X, .int .i64 o.Y, .int .i64 o.Tick], some (rows IntS.cs [0, 60, 100, 250, 400, 900]), some (rows IntS.cs [0, 80, 200, 500]), some (rows IntS.cs [0, 1, 20, 200, 1000]), some [.int .i64 n9, .int .i64 v6, .int .i64 v7, .int .i64 0, .int .i64 v8], some (rows IntS.cs [0, 0, 1, 15, -30])], 1⟩),
  (50153, ⟨[.ptr 0 0, .undef, .undef, .osl 1 0 S.length 5, .ptr 2 0, .ptr 3 0, .int .i64 n, .undef, .ptr 8 0, .undef, .undef, .undef, .undef, .undef, .undef, .undef, .undef, .undef, .undef, .undef, .undef, .undef, .undef, .undef, .undef, .undef, .undef, .undef, .undef, .undef, .undef, .undef, .undef, .undef, .undef, .undef, .ptr 4 2, .undef, .undef, .ptr 8 1, .undef, .undef, .int .i64 v7, .undef, .int .i64 o.X, .ptr 4 1, .undef, .undef, .undef, .undef, .ptr 0 0, .osl 9 0 5 1, .undef, .undef, .undef, .undef, .undef, .undef, .undef, .undef, .undef, .undef, .undef, .undef, .undef, .undef, .undef, .undef, .undef, .undef, .undef, .undef, .undef, .undef, .undef, .undef, .undef, .undef, .undef, .undef, .undef, .undef, .undef, .undef, .undef, .undef, .undef, .undef, .undef, .undef, .undef, .undef, .undef, .undef, .undef, .undef, .undef, .undef, .undef, .undef], [some (c8.cs B), some (rows Arrival.cs S), some [.int .i64 o1.X, .int .i64 o1.Y, .int .i64 o1.Tick], some [.int .i64 o2.X, .int .i64 o2.Y, .int .i64 o2.Tick], some [.int .i64 o.X, .int .i64 o.Y, .int .i64 o.Tick], some (rows IntS.cs [0, 60, 100, 250, 400, 900]), some (rows IntS.cs [0, 80, 200, 500]), some (rows IntS.cs [0, 1, 20, 200, 1000]), some [.int .i64 n9, .int .i64 v6, .int .i64 v7, .int .i64 0, .int .i64 v8], some (rows IntS.cs [0, 0, 1, 15, -30])], 1⟩),
  (50155, ⟨[.ptr 0 0, .undef, .undef, .osl 1 0 S.length 5, .ptr 2 0, .ptr 3 0, .int .i64 n, .undef, .ptr 8 0, .undef, .undef, .undef, .undef, .undef, .undef, .undef, .undef, .undef, .undef, .undef, .undef, .undef, .undef, .undef, .undef, .undef, .undef, .undef, .undef, .undef, .undef, .undef, .undef, .undef, .undef, .undef, .undef, .int .i64 o.Tick, .undef, .ptr 8 1, .undef, .undef, .int .i64 v7, .undef, .int .i64 o.X, .ptr 4 1, .undef, .undef, .undef, .undef, .ptr 0 0, .osl 9 0 5 1, .undef, .undef, .undef, .undef, .undef, .undef, .undef, .undef, .undef, .undef, .undef, .undef, .undef, .undef, .undef, .undef, .undef, .undef, .undef, .undef, .undef, .undef, .undef, .undef, .undef, .undef, .undef, .undef, .undef, .undef, .undef, .undef, .undef, .undef, .undef, .undef, .undef, .undef, .undef, .undef, .undef, .undef, .undef, .undef, .undef, .undef, .undef, .undef], [some (c8.cs B), some (rows Arrival.cs S), some [.int .i64 o1.X, .int .i64 o1.Y, .int .i64 o1.Tick], some [.int .i64 o2.X, .int .i64 o2.Y, .int .i64 o2.Tick], some [.int .i64 o.X, .int .i64 o.Y, .int .i64 o.Tick], some (rows IntS.cs [0, 60, 100, 250, 400, 900]), some (rows IntS.cs [0, 80, 200, 500]), some (rows IntS.cs [0, 1, 20, 200, 1000]), some [.int .i64 n9, .int .i64 v6, .int .i64 v7, .int .i64 0, .int .i64 v8], some (rows IntS.cs [0, 0, 1, 15, -30])], 1⟩),
  (50159, ⟨[.ptr 0 0, .undef, .undef, .osl 1 0 S.length 5, .ptr 2 0, .ptr 3 0, .int .i64 n, .undef, .ptr 8 0, .undef, .undef, .undef, .undef, .undef, .undef, .undef, .undef, .undef, .undef, .undef, .undef, .undef, .undef, .undef, .undef, .undef, .undef, .undef, .undef, .undef, .undef, .undef, .undef, .undef, .undef, .undef, .undef, .undef, .int .i64 m, .ptr 8 1, .undef, .undef, .int .i64 v7, .undef, .int .i64 o.X, .ptr 4 1, .undef, .undef, .undef, .undef, .ptr 0 0, .osl 9 0 5 1, .undef, .undef, .undef, .undef, .undef, .undef, .undef, .undef, .undef, .undef, .undef, .undef, .undef, .undef, .undef, .undef, .undef, .undef, .undef, .undef, .undef, .undef, .undef, .undef, .undef, .undef, .undef, .undef, .undef, .undef, .undef, .undef, .undef, .undef, .undef, .undef, .undef, .undef, .undef, .undef, .undef, .undef, .undef, .undef, .undef, .undef, .undef, .undef], [some (c8.cs B), some (rows Arrival.cs S), some [.int .i64 o1.X, .int .i64 o1.Y, .int .i64 o1.Tick], some [.int .i64 o2.X, .int .i64 o2.Y, .int .i64 o2.Tick], some [.int .i64 o.X, .int .i64 o.Y, .int .i64 o.Tick], some (rows IntS.cs [0, 60, 100, 250, 400, 900]), some (rows IntS.cs [0, 80, 200, 500]), some (rows IntS.cs [0, 1, 20, 200, 1000]), some [.int .i64 n9, .int .i64 v6, .int .i64 v7, .int .i64 0, .int .i64 v8], some (rows IntS.cs [0, 0, 1, 15, -30])], 1⟩),
  (50169, ⟨[.ptr 0 0, .undef, .undef, .osl 1 0 S.length 5, .ptr 2 0, .ptr 3 0, .int .i64 n, .undef, .ptr 8 0, .undef, .undef, .undef, .undef, .undef, .undef, .undef, .undef, .undef, .undef, .undef, .undef, .undef, .undef, .undef, .undef, .undef, .undef, .undef, .undef, .undef, .undef, .undef, .undef, .undef, .undef, .undef, .ptr 4 2, .undef, .undef, .undef, .int .i64 v6, .undef, .int .i64 v7, .undef, .int .i64 o.X, .ptr 4 1, .undef, .undef, .undef, .undef, .ptr 0 0, .osl 9 0 5 1, .undef, .undef, .undef, .undef, .undef, .undef, .undef, .undef, .undef, .undef, .undef, .undef, .undef, .undef, .undef, .undef, .undef, .undef, .undef, .undef, .undef, .undef, .undef, .undef, .undef, .undef, .undef, .undef, .undef, .undef, .undef, .undef, .undef, .undef, .undef, .undef, .undef, .undef, .undef, .undef, .undef, .undef, .undef, .undef, .undef, .undef, .undef, .undef], [some (c8.cs B), some (rows Arrival.cs S), some [.int .i64 o1.X, .int .i64 o1.Y, .int .i64 o1.Tick], some [.int .i64 o2.X, .int .i64 o2.Y, .int .i64 o2.Tick], some [.int .i64 o.X, .int .i64 o.Y, .int .i64 o.Tick], some (rows IntS.cs [0, 60, 100, 250, 400, 900]), some (rows IntS.cs [0, 80, 200, 500]), some (rows IntS.cs [0, 1, 20, 200, 1000]), some [.int .i64 n9, .int .i64 v6, .int .i64 v7, .int .i64 0, .int .i64 v8], some (rows IntS.cs [0, 0, 1, 15, -30])], 1⟩),
  (50171, ⟨[.ptr 0 0, .undef, .undef, .osl 1 0 S.length 5, .ptr 2 0, .ptr 3 0, .int .i64 n, .undef, .ptr 8 0, .undef, .undef, .undef, .undef, .undef, .undef, .undef, .undef, .undef, .undef, .undef, .undef, .undef, .undef, .undef, .undef, .undef, .undef, .undef, .undef, .undef, .undef, .undef, .undef, .undef, .undef, .undef, .undef, .int .i64 o.Tick, .undef, .undef, .int .i64 v6, .undef, .int .i64 v7, .undef, .int .i64 o.X, .ptr 4 1, .undef, .undef, .undef, .undef, .ptr 0 0, .osl 9 0 5 1, .undef, .undef, .undef, .undef, .undef, .undef, .undef, .undef, .undef, .undef, .undef, .undef, .undef, .undef, .undef, .undef, .undef, .undef, .undef, .undef, .undef, .undef, .undef, .undef, .undef, .undef, .undef, .undef, .undef, .undef, .undef, .undef, .undef, .undef, .undef, .undef, .undef, .undef, .undef, .undef, .undef, .undef, .undef, .undef, .undef, .undef, .undef, .undef], [some (c8.cs B), some (rows Arrival.cs S), some [.int .i64 o1.X, .int .i64 o1.Y, .int .i64 o1.Tick], some [.int .i64 o2.X, .int .i64 o2.Y, .int .i64 o2.Tick], some [.int .i64 o.X, .int .i64 o.Y, .int .i64 o.Tick], some (rows IntS.cs [0, 60, 100, 250, 400, 900]), some (rows IntS.cs [0, 80, 200, 500]), some (rows IntS.cs [0, 1, 20, 200, 1000]), some [.int .i64 n9, .int .i64 v6, .int .i64 v7, .int .i64 0, .int .i64 v8], some (rows IntS.cs [0, 0, 1, 15, -30])], 1⟩),
  (50175, ⟨[.ptr 0 0, .undef, .undef, .osl 1 0 S.length 5, .ptr 2 0, .ptr 3 0, .int .i64 n, .undef, .ptr 8 0, .undef, .undef, .undef, .undef, .undef, .undef, .undef, .undef, .undef, .undef, .undef, .undef, .undef, .undef, .undef, .undef, .undef, .undef, .undef, .undef, .undef, .undef, .undef, .undef, .undef, .undef, .undef, .undef, .undef, .int .i64 m, .undef, .int .i64 v6, .undef, .int .i64 v7, .undef, .int .i64 o.X, .ptr 4 1, .undef, .undef, .undef, .undef, .ptr 0 0, .osl 9 0 5 1, .undef, .undef, .undef, .undef, .undef, .undef, .undef, .undef, .undef, .undef, .undef, .undef, .undef, .undef, .undef, .undef, .undef, .undef, .undef, .undef, .undef, .undef, .undef, .undef, .undef, .undef, .undef, .undef, .undef, .undef, .undef, .undef, .undef, .undef, .undef, .undef, .undef, .undef, .undef, .undef, .undef, .undef, .undef, .undef, .undef, .undef, .undef, .undef], [some (c8.cs B), some (rows Arrival.cs S), some [.int .i64 o1.X, .int .i64 o1.Y, .int .i64 o1.Tick], some [.int .i64 o2.X, .int .i64 o2.Y, .int .i64 o2.Tick], some [.int .i64 o.X, .int .i64 o.Y, .int .i64 o.Tick], some (rows IntS.cs [0, 60, 100, 250, 400, 900]), some (rows IntS.cs [0, 80, 200, 500]), some (rows IntS.cs [0, 1, 20, 200, 1000]), some [.int .i64 n9, .int .i64 v6, .int .i64 v7, .int .i64 0, .int .i64 v8], some (rows IntS.cs [0, 0, 1, 15, -30])], 1⟩),
  (50857, ⟨[.ptr 0 0, .undef, .undef, .osl 1 0 S.length 5, .ptr 2 0, .ptr 3 0, .int .i64 n, .undef, .ptr 8 0, .undef, .undef, .undef, .undef, .undef, .undef, .undef, .undef, .undef, .undef, .undef, .undef, .undef, .undef, .undef, .undef, .undef, .undef, .undef, .undef, .undef, .undef, .undef, .undef, .undef, .undef, .undef, .ptr 4 2, .undef, .undef, .ptr 8 1, .undef, .ptr 8 2, .undef, .ptr 4 0, .undef, .undef, .int .i64 o.Y, .undef, .undef, .undef, .ptr 0 0, .osl 9 0 5 1, .undef, .undef, .undef, .undef, .undef, .undef, .undef, .undef, .undef, .undef, .undef, .undef, .undef, .undef, .undef, .undef, .undef, .undef, .undef, .undef, .undef, .undef, .undef, .undef, .undef, .undef, .undef, .undef, .undef, .undef, .undef, .undef, .undef, .undef, .undef, .undef, .undef, .undef, .undef, .undef, .undef, .undef, .undef, .undef, .undef, .undef, .undef, .undef], [some (c8.cs B), some (rows Arrival.cs S), some [.int .i64 o1.X, .int .i64 o1.Y, .int .i64 o1.Tick], some [.int .i64 o2.X, .int .i64 o2.Y, .int .i64 o2.Tick], some [.int .i64 o.X, .int .i64 o.Y, .int .i64 o.Tick], some (rows IntS.cs [0, 60, 100, 250, 400, 900]), some (rows IntS.cs [0, 80, 200, 500]), some (rows IntS.cs [0, 1, 20, 200, 1000]), some [.int .i64 n9, .int .i64 v6, .int .i64 v7, .int .i64 0, .int .i64 v8], some (rows IntS.cs [0, 0, 1, 15, -30])], 1⟩),
  (50859, ⟨[.ptr 0 0, .undef, .undef, .osl 1 0 S.length 5, .ptr 2 0, .ptr 3 0, .int .i64 n, .undef, .ptr 8 0, .undef, .undef, .undef, .undef, .undef, .undef, .undef, .undef, .undef, .undef, .undef, .undef, .undef, .undef, .undef, .undef, .undef, .undef, .undef, .undef, .undef, .undef, .undef, .undef, .undef, .undef, .undef, .undef, .int .i64 o.Tick, .undef, .ptr 8 1, .undef, .ptr 8 2, .undef, .ptr 4 0, .undef, .undef, .int .i64 o.Y, .undef, .undef, .undef, .ptr 0 0, .osl 9 0 5 1, .undef, .undef, .undef, .undef, .undef, .undef, .undef, .undef, .undef, .undef, .undef, .undef, .undef, .undef, .undef, .undef, .undef, .undef, .undef, .undef, .undef, .undef, .undef, .undef, .undef, .undef, .undef, .undef, .undef, .undef, .undef, .undef, .undef, .undef, .undef, .undef, .undef, .undef, .undef, .undef, .undef, .undef, .undef, .undef, .undef, .undef, .undef, .undef], [some (c8.cs B), some (rows Arrival.cs S), some [.int .i64 o1.X, .int .i64 o1.Y, .int .i64 o1.Tick], some [.int .i64 o2.X, .int .i64 o2.Y, .int .i64 o2.Tick], some [.int .i64 o.X, .int .i64 o.Y, .int .i64 o.Tick], some (rows IntS.cs [0, 60, 100, 250, 400, 900]), some (rows IntS.cs [0, 80, 200, 500]), some (rows IntS.cs [0, 1, 20, 200, 1000]), some [.int .i64 n9, .int .i64 v6, .int .i64 v7, .int .i64 0, .int .i64 v8], some (rows IntS.cs [0, 0, 1, 15, -30])], 1⟩),
  (50863, ⟨[.ptr 0 0, .undef, .undef, .osl 1 0 S.length 5, .ptr 2 0, .ptr 3 0, .int .i64 n, .undef, .ptr 8 0, .undef, .undef, .undef, .undef, .undef, .undef, .undef, .undef, .undef, .undef, .undef, .undef, .undef, .undef, .undef, .undef, .undef, .undef, .undef, .undef, .undef, .undef, .undef, .undef, .undef, .undef, .undef, .undef, .undef, .int .i64 m, .ptr 8 1, .undef, .ptr 8 2, .undef, .ptr 4 0, .undef, .undef, .int .i64 o.Y, .undef, .undef, .undef, .ptr 0 0, .osl 9 0 5 1, .undef, .undef, .undef, .undef, .undef, .undef, .undef, .undef, .undef, .undef, .undef, .undef, .undef, .undef, .undef, .undef, .undef, .undef, .undef, .undef, .undef, .undef, .undef, .undef, .undef, .undef, .undef, .undef, .undef, .undef, .undef, .undef, .undef, .undef, .undef, .undef, .undef, .undef, .undef, .undef, .undef, .undef, .undef, .undef, .undef, .undef, .undef, .undef], [some (c8.cs B), some (rows Arrival.cs S), some [.int .i64 o1.X, .int .i64 o1.Y, .int .i64 o1.Tick], some [.int .i64 o2.X, .int .i64 o2.Y, .int .i64 o2.Tick], some [.int .i64 o.X, .int .i64 o.Y, .int .i64 o.Tick], some (rows IntS.cs [0, 60, 100, 250, 400, 900]), some (rows IntS.cs [0, 80, 200, 500]), some (rows IntS.cs [0, 1, 20, 200, 1000]), some [.int .i64 n9, .int .i64 v6, .int .i64 v7, .int .i64 0, .int .i64 v8], some (rows IntS.cs [0, 0, 1, 15, -30])], 1⟩),
  (50873, ⟨[.ptr 0 0, .undef, .undef, .osl 1 0 S.length 5, .ptr 2 0, .ptr 3 0, .int .i64 n, .undef, .ptr 8 0, .undef, .undef, .undef, .undef, .undef, .undef, .undef, .undef, .undef, .undef, .undef, .undef, .undef, .undef, .undef, .undef, .undef, .undef, .undef, .undef, .undef, .undef, .undef, .undef, .undef, .undef, .undef, .ptr 4 2, .undef, .undef, .undef, .int .i64 v6, .ptr 8 2, .undef, .ptr 4 0, .undef, .undef, .int .i64 o.Y, .undef, .undef, .undef, .ptr 0 0, .osl 9 0 5 1, .undef, .undef, .undef, .undef, .undef, .undef, .undef, .undef, .undef, .undef, .undef, .undef, .undef, .undef, .undef, .undef, .undef, .undef, .undef, .undef, .undef, .undef, .undef, .undef, .undef, .undef, .undef, .undef, .undef, .undef, .undef, .undef, .undef, .undef, .undef, .undef, .undef, .undef, .undef, .undef, .undef, .undef, .undef, .undef, .undef, .undef, .undef, .undef], [some (c8.cs B), some (rows Arrival.cs S), some [.int .i64 o1.X, .int .i64 o1.Y, .int .i64 o1.Tick], some [.int .i64 o2.X, .int .i64 o2.Y, .int .i64 o2.Tick], some [.int .i64 o.X, .int .i64 o.Y, .int .i64 o.Tick], some (rows IntS.cs [0, 60, 100, 250, 400, 900]), some (rows IntS.cs [0, 80, 200, 500]), some (rows IntS.cs [0, 1, 20, 200, 1000]), some [.int .i64 n9, .int .i64 v6, .int .i64 v7, .int .i64 0, .int .i64 v8], some (rows IntS.cs [0, 0, 1, 15, -30])], 1⟩),
  (50875, ⟨[.ptr 0 0, .undef, .undef, .osl 1 0 S.length 5, .ptr 2 0, .ptr 3 0, .int .i64 n, .undef, .ptr 8 0, .undef, .undef, .undef, .undef, .undef, .undef, .undef, .undef, .undef, .undef, .undef, .undef, .undef, .undef, .undef, .undef, .undef, .undef, .undef, .undef, .undef, .undef, .undef, .undef, .undef, .undef, .undef, .undef, .int .i64 o.Tick, .undef, .undef, .int .i64 v6, .ptr 8 2, .undef, .ptr 4 0, .undef, .undef, .int .i64 o.Y, .undef, .undef, .undef, .ptr 0 0, .osl 9 0 5 1, .undef, .undef, .undef, .undef, .undef, .undef, .undef, .undef, .undef, .undef, .undef, .undef, .undef, .undef, .undef, .undef, .undef, .undef, .undef, .undef, .undef, .undef, .undef, .undef, .undef, .undef, .undef, .undef, .undef, .undef, .undef, .undef, .undef, .undef, .undef, .undef, .undef, .undef, .undef, .undef, .undef, .undef, .undef, .undef, .undef, .undef, .undef, .undef], [some (c8.cs B), some (rows Arrival.cs S), some [.int .i64 o1.X, .int .i64 o1.Y, .int .i64 o1.Tick], some [.int .i64 o2.X, .int .i64 o2.Y, .int .i64 o2.Tick], some [.int .i64 o.X, .int .i64 o.Y, .int .i64 o.Tick], some (rows IntS.cs [0, 60, 100, 250, 400, 900]), some (rows IntS.cs [0, 80, 200, 500]), some (rows IntS.cs [0, 1, 20, 200, 1000]), some [.int .i64 n9, .int .i64 v6, .int .i64 v7, .int .i64 0, .int .i64 v8], some (rows IntS.cs [0, 0, 1, 15, -30])], 1⟩),
  (50879, ⟨[.ptr 0 0, .undef, .undef, .osl 1 0 S.length 5, .ptr 2 0, .ptr 3 0, .int .i64 n, .undef, .ptr 8 0, .undef, .undef, .undef, .undef, .undef, .undef, .undef, .undef, .undef, .undef, .undef, .undef, .undef, .undef, .undef, .undef, .undef, .undef, .undef, .undef, .undef, .undef, .undef, .undef, .undef, .undef, .undef, .undef, .undef, .int .i64 m, .undef, .int .i64 v6, .ptr 8 2, .undef, .ptr 4 0, .undef, .undef, .int .i64 o.Y, .undef, .undef, .undef, .ptr 0 0, .osl 9 0 5 1, .undef, .undef, .undef, .undef, .undef, .undef, .undef, .undef, .undef, .undef, .undef, .undef, .undef, .undef, .undef, .undef, .undef, .undef, .undef, .undef, .undef, .undef, .undef, .undef, .undef, .undef, .undef, .undef, .undef, .undef, .undef, .undef, .undef, .undef, .undef, .undef, .undef, .undef, .undef, .undef, .undef, .undef, .undef, .undef, .undef, .undef, .undef, .undef], [some (c8.cs B), some (rows Arrival.cs S), some [.int .i64 o1.X, .int .i64 o1.Y, .int .i64 o1.Tick], some [.int .i64 o2.X, .int .i64 o2.Y, .int .i64 o2.Tick], some [.int .i64 o.X, .int .i64 o.Y, .int .i64 o.Tick], some (rows IntS.cs [0, 60, 100, 250, 400, 900]), some (rows IntS.cs [0, 80, 200, 500]), some (rows IntS.cs [0, 1, 20, 200, 1000]), some [.int .i64 n9, .int .i64 v6, .int .i64 v7, .int .i64 0, .int .i64 v8], some (rows IntS.cs [0, 0, 1, 15, -30])], 1⟩),
  (50921, ⟨[.ptr 0 0, .undef, .undef, .osl 1 0 S.length 5, .ptr 2 0, .ptr 3 0, .int .i64 n, .undef, .ptr 8 0, .undef, .undef, .undef, .undef, .undef, .undef, .undef, .undef, .undef, .undef, .undef, .undef, .undef, .undef, .undef, .undef, .undef, .undef, .undef, .undef, .undef, .undef, .undef, .undef, .undef, .undef, .undef, .ptr 4 2, .undef, .undef, .ptr 8 1, .undef, .undef, .int .i64 v7, .ptr 4 0, .undef, .undef, .int .i64 o.Y, .undef, .undef, .undef, .ptr 0 0, .osl 9 0 5 1, .undef, .undef, .undef, .undef, .undef, .undef, .undef, .undef, .undef, .undef, .undef, .undef, .undef, .undef, .undef, .undef, .undef, .undef, .undef, .undef, .undef, .undef, .undef, .undef, .undef, .undef, .undef, .undef, .undef, .undef, .undef, .undef, .undef, .undef, .undef, .undef, .undef, .undef, .undef, .undef, .undef, .undef, .undef, .undef, .undef, .undef, .undef, .undef], [some (c8.cs B), some (rows Arrival.cs S), some [.int .i64 o1.X, .int .i64 o1.Y, .int .i64 o1.Tick], some [.int .i64 o2.X, .int .i64 o2.Y, .int .i64 o2.Tick], some [.int .i64 o.X, .int .i64 o.Y, .int .i64 o.Tick], some (rows IntS.cs [0, 60, 100, 250, 400, 900]), some (rows IntS.cs [0, 80, 200, 500]), some (rows IntS.cs [0, 1, 20, 200, 1000]), some [.int .i64 n9, .int .i64 v6, .int .i64 v7, .int .i64 0, .int .i64 v8], some (rows IntS.cs [0, 0, 1, 15, -30])], 1⟩),
  (50923, ⟨[.ptr 0 0, .undef, .undef, .osl 1 0 S.length 5, .ptr 2 0, .ptr 3 0, .int .i64 n, .undef, .ptr 8 0, .undef, .undef, .undef, .undef, .undef, .undef, .undef, .undef, .undef, .undef, .undef, .undef, .undef, .undef, .undef, .undef, .undef, .undef, .undef, .undef, .undef, .undef, .undef, .undef, .undef, .undef, .undef, .undef, .int .i64 o.Tick, .undef, .ptr 8 1, .undef, .undef, .int .i64 v7, .ptr 4 0, .undef, .undef, .int .i64 o.Y, .undef, .undef, .undef, .ptr 0 0, .osl 9 0 5 1, .undef, .undef, .undef, .undef, .undef, .undef, .undef, .undef, .undef, .undef, .undef, .undef, .undef, .undef, .undef, .undef, .undef, .undef, .undef, .undef, .undef, .undef, .undef, .undef, .undef, .undef, .undef, .undef, .undef, .undef, .undef, .undef, .undef, .undef, .undef, .undef, .undef, .undef, .undef, .undef, .undef, .undef, .undef, .undef, .undef, .undef, .undef, .undef], [some (c8.cs B), some (rows Arrival.cs S), some [.int .i64 o1.X, .int .i64 o1.Y, .int .i64 o1.Tick], some [.int .i64 o2.X, .int .i64 o2.Y, .int .i64 o2.Tick], some [.int .i64 o.X, .int .i64 o.Y, .int .i64 o.Tick], some (rows IntS.cs [0, 60, 100, 250, 400, 900]), some (rows IntS.cs [0, 80, 200, 500]), some (rows IntS.cs [0, 1, 20, 200, 1000]), some [.int .i64 n9, .int .i64 v6, .int .i64 v7, .int .i64 0, .int .i64 v8], some (rows IntS.cs [0, 0, 1, 15, -30])], 1⟩),
  (50927, ⟨[.ptr 0 0, .undef, .undef, .osl 1 0 S.length 5, .ptr 2 0, .ptr 3 0, .int .i64 n, .undef, .ptr 8 0, .undef, .undef, .undef, .undef, .undef, .undef, .undef, .undef, .undef, .undef, .undef, .undef, .undef, .undef, .undef, .undef, .undef, .undef, .undef, .undef, .undef, .undef, .undef, .undef, .undef, .undef, .undef, .undef, .undef, .int .i64 m, .ptr 8 1, .undef, .undef, .int .i64 v7, .ptr 4 0, .undef, .undef, .int .i64 o.Y, .undef, .undef, .undef, .ptr 0 0, .osl 9 0 5 1, .undef, .undef, .undef, .undef, .undef, .undef, .undef, .undef, .undef, .undef, .undef, .undef, .undef, .undef, .undef, .undef, .undef, .undef, .undef, .undef, .undef, .undef, .undef, .undef, .undef, .undef, .undef, .undef, .undef, .undef, .undef, .undef, .undef, .undef, .undef, .undef, .undef, .undef, .undef, .undef, .undef, .undef, .undef, .undef, .undef, .undef, .undef, .undef], [some (c8.cs B), some (rows Arrival.cs S), some [.int .i64 o1.X, .int .i64 o1.Y, .int .i64 o1.Tick], some [.int .i64 o2.X, .int .i64 o2.Y, .int .i64 o2.Tick], some [.int .i64 o.X, .int .i64 o.Y, .int .i64 o.Tick], some (rows IntS.cs [0, 60, 100, 250, 400, 900]), some (rows IntS.cs [0, 80, 200, 500]), some (rows IntS.cs [0, 1, 20, 200, 1000]), some [.int .i64 n9, .int .i64 v6, .int .i64 v7, .int .i64 0, .int .i64 v8], some (rows IntS.cs [0, 0, 1, 15, -30])], 1⟩),
  (50937, ⟨[.ptr 0 0, .undef, .undef, .osl 1 0 S.length 5, .ptr 2 0, .ptr 3 0, .int .i64 n, .undef, .ptr 8 0, .undef, .undef, .undef, .undef, .undef, .undef, .undef, .undef, .undef, .undef, .undef, .undef, .undef, .undef, .undef, .undef, .undef, .undef, .undef, .undef, .undef, .undef, .undef, .undef, .undef, .undef, .undef, .ptr 4 2, .undef, .undef, .undef, .int .i64 v6, .undef, .int .i64 v7, .ptr 4 0, .undef, .undef, .int .i64 o.Y, .undef, .undef, .undef, .ptr 0 0, .osl 9 0 5 1, .undef, .undef, .undef, .undef, .undef, .undef, .undef, .undef, .undef, .undef, .undef, .undef, .undef, .undef, .undef, .undef, .undef, .undef, .undef, .undef, .undef, .undef, .undef, .undef, .undef, .undef, .undef, .undef, .undef, .undef, .undef, .undef, .undef, .undef, .undef, .undef, .undef, .undef, .undef, .undef, .undef, .undef, .undef, .undef, .undef, .undef, .undef, .undef], [some (c8.cs B), some (rows Arrival.cs S), some [.int .i64 o1.X, .int .i64 o1.Y, .int .i64 o1.Tick], some [.int .i64 o2.X, .int .i64 o2.Y, .int .i64 o2.Tick], some [.int .i64 o.X, .int .i64 o.Y, .int .i64 o.Tick], some (rows IntS.cs [0, 60, 100, 250, 400, 900]), some (rows IntS.cs [0, 80, 200, 500]), some (rows IntS.cs [0, 1, 20, 200, 1000]), some [.int .i64 n9, .int .i64 v6, .int .i64 v7, .int .i64 0, .int .i64 v8], some (rows IntS.cs [0, 0, 1, 15, -30])], 1⟩),
  (50939, ⟨[.ptr 0 0, .undef, .undef, .osl 1 0 S.length 5, .ptr 2 0, .ptr 3 0, .int .i64 n, .undef, .ptr 8 0, .undef, .undef, .undef, .undef, .undef, .undef, .undef, .undef, .undef, .undef, .undef, .undef, .undef, .undef, .undef, .undef, .undef, .undef, .undef, .undef, .undef, .undef, .undef, .undef, .undef, .undef, .undef, .undef, .int .i64 o.Tick, .undef, .undef, .int .i64 v6, .undef, .int .i64 v7, .ptr 4 0, .undef, .undef, .int .i64 o.Y, .undef, .undef, .undef, .ptr 0 0, .osl 9 0 5 1, .undef, .undef, .undef, .undef, .undef, .undef, .undef, .undef, .undef, .undef, .undef, .undef, .undef, .undef, .undef, .undef, .undef, .undef, .undef, .undef, .undef, .undef, .undef, .undef, .undef, .undef, .undef, .undef, .undef, .undef, .undef, .undef, .undef, .undef, .undef, .undef, .undef, .undef, .undef, .undef, .undef, .undef, .undef, .undef, .undef, .undef, .undef, .undef], [some (c8.cs B), some (rows Arrival.cs S), some [.int .i64 o1.X, .int .i64 o1.Y, .int .i64 o1.Tick], some [.int .i64 o2.X, .int .i64 o2.Y, .int .i64 o2.Tick], some [.int .i64 o.X, .int .i64 o.Y, .int .i64 o.Tick], some (rows IntS.cs [0, 60, 100, 250, 400, 900]), some (rows IntS.cs [0, 80, 200, 500]), some (rows IntS.cs [0, 1, 20, 200, 1000]), some [.int .i64 n9, .int .i64 v6, .int .i64 v7, .int .i64 0, .int .i64 v8], some (rows IntS.cs [0, 0, 1, 15, -30])], 1⟩),
  (50943, ⟨[.ptr 0 0, .undef, .undef, .osl 1 0 S.length 5, .ptr 2 0, .ptr 3 0, .int .i64 n, .undef, .ptr 8 0, .undef, .undef, .undef, .undef, .undef, .undef, .undef, .undef, .undef, .undef, .undef, .undef, .undef, .undef, .undef, .undef, .undef, .undef, .undef, .undef, .undef, .undef, .undef, .undef, .undef, .undef, .undef, .undef, .undef, .int .i64 m, .undef, .int .i64 v6, .undef, .int .i64 v7, .ptr 4 0, .undef, .undef, .int .i64 o.Y, .undef, .undef, .undef, .ptr 0 0, .osl 9 0 5 1, .undef, .undef, .undef, .undef, .undef, .undef, .undef, .undef, .undef, .undef, .undef, .undef, .undef, .undef, .undef, .undef, .undef, .undef, .undef, .undef, .undef, .undef, .undef, .undef, .undef, .undef, .undef, .undef, .undef, .undef, .undef, .undef, .undef, .undef, .undef, .undef, .undef, .undef, .undef, .undef, .undef, .undef, .undef, .undef, .undef, .undef, .undef, .undef], [some (c8.cs B), some (rows Arrival.cs S), some [.int .i64 o1.X, .int .i64 o1.Y, .int .i64 o1.Tick], some [.int .i64 o2.X, .int .i64 o2.Y, .int .i64 o2.Tick], some [.int .i64 o.X, .int .i64 o.Y, .int .i64 o.Tick], some (rows IntS.cs [0, 60, 100, 250, 400, 900]), some (rows IntS.cs [0, 80, 200, 500]), some (rows IntS.cs [0, 1, 20, 200, 1000]), some [.int .i64 n9, .int .i64 v6, .int .i64 v7, .int .i64 0, .int .i64 v8], some (rows IntS.cs [0, 0, 1, 15, -30])], 1⟩),
  (51113, ⟨[.ptr 0 0, .undef, .undef, .osl 1 0 S.length 5, .ptr 2 0, .ptr 3 0, .int .i64 n, .undef, .ptr 8 0, .undef, .undef, .undef, .undef, .undef, .undef, .undef, .undef, .undef, .undef, .undef, .undef, .undef, .undef, .undef, .undef, .undef, .undef, .undef, .undef, .undef, .undef, .undef, .undef, .undef, .undef, .undef, .ptr 4 2, .undef, .undef, .ptr 8 1, .undef, .ptr 8 2, .undef, .undef, .int .i64 o.X, .undef, .int .i64 o.Y, .undef, .undef, .undef, .ptr 0 0, .osl 9 0 5 1, .undef, .undef, .undef, .undef, .undef, .undef, .undef, .undef, .undef, .undef, .undef, .undef, .undef, .undef, .undef, .undef, .undef, .undef, .undef, .undef, .undef, .undef, .undef, .undef, .undef, .undef, .undef, .undef, .undef, .undef, .undef, .undef, .undef, .undef, .undef, .undef, .undef, .undef, .undef, .undef, .undef, .undef, .undef, .undef, .undef, .undef, .undef, .undef], [some (c8.cs B), some (rows Arrival.cs S), some [.int .i64 o1.X, .int .i64 o1.Y, .int .i64 o1.Tick], some [.int .i64 o2.X, .int .i64 o2.Y, .int .i64 o2.Tick], some [.int .i64 o.X, .int .i64 o.Y, .int .i64 o.Tick], some (rows IntS.cs [0, 60, 100, 250, 400, 900]), some (rows IntS.cs [0, 80, 200, 500]), some (rows IntS.cs [0, 1, 20, 200, 1000]), some [.int .i64 n9, .int .i64 v6, .int .i64 v7, .int .i64 0, .int .i64 v8], some (rows IntS.cs [0, 0, 1, 15, -30])], 1⟩),
  (51115, ⟨[.ptr 0 0, .undef, .undef, .osl 1 0 S.length 5, .ptr 2 0, .ptr 3 0, .int .i64 n, .undef, .ptr 8 0, .undef, .undef, .undef, .undef, .undef, .undef, .undef, .undef, .undef, .undef, .undef, .undef, .undef, .undef, .undef, .undef, .undef, .undef, .undef, .undef, .undef, .undef, .undef, .undef, .undef, .undef, .undef, .undef, .int .i64 o.Tick, .undef, .ptr 8 1, .undef, .ptr 8 2, .undef, .undef, .int .i64 o.X, .undef, .int .i64 o.Y, .undef, .undef, .undef, .ptr 0 0, .osl 9 0 5 1, .undef, .undef, .undef, .undef, .undef, .undef, .undef, .undef, .undef, .undef, .undef, .undef, .undef, .undef, .undef, .undef, .undef, .undef, .undef, .undef, .undef, .undef, .undef, .undef, .undef, .undef, .undef, .undef, .undef, .undef, .undef, .undef, .undef, .undef, .undef, .undef, .undef, .undef, .undef, .undef, .undef, .undef, .undef, .undef, .undef, .undef, .undef, .undef], [some (c8.cs B), some (rows Arrival.cs S), some [.int .i64 o1.X, .int .i64 o1.Y, .int .i64 o1.Tick], some [.int .i64 o2.X, .int .i64 o2.Y, .int .i64 o2.Tick], some [.int .i64 o.X, .int .i64 o.Y, .int .i64 o.Tick], some (rows IntS.cs [0, 60, 100, 250, 400, 900]), some (rows IntS.cs [0, 80, 200, 500]), some (rows IntS.cs [0, 1, 20, 200, 1000]), some [.int .i64 n9, .int .i64 v6, .int .i64 v7, .int .i64 0, .int .i64 v8], some (rows IntS.cs [0, 0, 1, 15, -30])], 1⟩),
  (51119, ⟨[.ptr 0 0, .undef, .undef, .osl 1 0 S.length 5, .ptr 2 0, .ptr 3 0, .int .i64 n, .undef, .ptr 8 0, .undef, .undef, .undef, .undef, .undef, .undef, .undef, .undef, .undef, .undef, .undef, .undef, .undef, .undef, .undef, .undef, .undef, .undef, .undef, .undef, .undef, .undef, .undef, .undef, .undef, .undef, .undef, .undef, .undef, .int .i64 m, .ptr 8 1, .undef, .ptr 8 2, .undef, .undef, .int .i64 o.X, .undef, .int .i64 o.Y, .undef, .undef, .undef, .ptr 0 0, .osl 9 0 5 1, .undef, .undef, .undef, .undef, .undef, .undef, .undef, .undef, .undef, .undef, .undef, .undef, .undef, .undef, .undef, .undef, .undef, .undef, .undef, .undef, .undef, .undef, .undef, .undef, .undef, .undef, .undef, .undef, .undef, .undef, .undef, .undef, .undef, .undef, .undef, .undef, .undef, .undef, .undef, .undef, .undef, .undef, .undef, .undef, .undef, .undef, .undef, .undef], [some (c8.cs B), some (rows Arrival.cs S), some [.int .i64 o1.X, .int .i64 o1.Y, .int .i64 o1.Tick], some [.int .i64 o2.X, .int .i64 o2.Y, .int .i64 o2.Tick], some [.int .i64 o.X, .int .i64 o.Y, .int .i64 o.Tick], some (rows IntS.cs [0, 60, 100, 250, 400, 900]), some (rows IntS.cs [0, 80, 200, 500]), some (rows IntS.cs [0, 1, 20, 200, 1000]), some [.int .i64 n9, .int .i64 v6, .int .i64 v7, .int .i64 0, .int .i64 v8], some (rows IntS.cs [0, 0, 1, 15, -30])], 1⟩),
  (51129, ⟨[.ptr 0 0, .undef, .undef, .osl 1 0 S.length 5, .ptr 2 0, .ptr 3 0, .int .i64 n, .undef, .ptr 8 0, .undef, .undef, .undef, .undef, .undef, .undef, .undef, .undef, .undef, .undef, .undef, .undef, .undef, .undef, .undef, .undef, .undef, .undef, .undef, .undef, .undef, .undef, .undef, .undef, .undef, .undef, .undef, .ptr 4 2, .undef, .undef, .undef, .int .i64 v6, .ptr 8 2, .undef, .undef, .int .i64 o.X, .undef, .int .i64 o.Y, .undef, .undef, .undef, .ptr 0 0, .osl 9 0 5 1, .undef, .undef, .undef, .undef, .undef, .undef, .undef, .undef, .undef, .undef, .undef, .undef, .undef, .undef, .undef, .undef, .undef, .undef, .undef, .undef, .undef, .undef, .undef, .undef, .undef, .undef, .undef, .undef, .undef, .undef, .undef, .undef, .undef, .undef, .undef, .undef, .undef, .undef, .undef, .undef, .undef, .undef, .undef, .undef, .undef, .undef, .undef, .undef], [some (c8.cs B), some (rows Arrival.cs S), some [.int .i64 o1.X, .int .i64 o1.Y, .int .i64 o1.Tick], some [.int .i64 o2.X, .int .i64 o2.Y, .int .i64 o2.Tick], some [.int .i64 o.X, .int .i64 o.Y, .int .i64 o.Tick], some (rows IntS.cs [0, 60, 100, 250, 400, 900]), some (rows IntS.cs [0, 80, 200, 500]), some (rows IntS.cs [0, 1, 20, 200, 1000]), some [.int .i64 n9, .int .i64 v6, .int .i64 v7, .int .i64 0, .int .i64 v8], some (rows IntS.cs [0, 0, 1, 15, -30])], 1⟩),
  (51131, ⟨[.ptr 0 0, .undef, .undef, .osl 1 0 S.length 5, .ptr 2 0, .ptr 3 0, .int .i64 n, .undef, .ptr 8 0, .undef, .undef, .undef, .undef, .undef, .undef, .undef, .undef, .undef, .undef, .undef, .undef, .undef, .undef, .undef, .undef, .undef, .undef, .undef, .undef, .undef, .undef, .undef, .undef, .undef, .undef, .undef, .undef, .int .i64 o.Tick, .undef, .undef, .int .i64 v6, .ptr 8 2, .undef, .undef, .int .i64 o.X, .undef, .int .i64 o.Y, .undef, .undef, .undef, .ptr 0 0, .osl 9 0 5 1, .undef, .undef, .undef, .undef, .undef, .undef, .undef, .undef, .undef, .undef, .undef, .undef, .undef, .undef, .undef, .undef, .undef, .undef, .undef, .undef, .undef, .undef, .undef, .undef, .undef, .undef, .undef, .undef, .undef, .undef, .undef, .undef, .undef, .undef, .undef, .undef, .undef, .undef, .undef, .undef, .undef, .undef, .undef, .undef, .undef, .undef, .undef, .undef], [some (c8.cs B), some (rows Arrival.cs S), some [.int .i64 o1.X, .int .i64 o1.Y, .int .i64 o1.Tick], some [.int .i64 o2.X, .int .i64 o2.Y, .int .i64 o2.Tick], some [.int .i64 o.X, .int .i64 o.Y, .int .i64 o.Tick], some (rows IntS.cs [0, 60, 100, 250, 400, 900]), some (rows IntS.cs [0, 80, 200, 500]), some (rows IntS.cs [0, 1, 20, 200, 1000]), some [.int .i64 n9, .int .i64 v6, .int .i64 v7, .int .i64 0, .int .i64 v8], some (rows IntS.cs [0, 0, 1, 15, -30])], 1⟩),
  (51135, ⟨[.ptr 0 0, .undef, .undef, .osl 1 0 S.length 5, .ptr 2 0, .ptr 3 0, .int .i64 n, .undef, .ptr 8 0, .undef, .undef, .undef, .undef, .undef, .undef, .undef, .undef, .undef, .undef, .undef, .undef, .undef, .undef, .undef, .undef, .undef, .undef, .undef, .undef, .undef, .undef, .undef, .undef, .undef, .undef, .undef, .undef, .undef, .int .i64 m, .undef, .int .i64 v6, .ptr 8 2, .undef, .undef, .int .i64 o.X, .undef, .int .i64 o.Y, .undef, .undef, .undef, .ptr 0 0, .osl 9 0 5 1, .undef, .undef, .undef, .undef, .undef, .undef, .undef, .undef, .undef, .undef, .undef, .undef, .undef, .undef, .undef, .undef, .undef, .undef, .undef, .undef, .undef, .undef, .undef, .undef, .undef, .undef, .undef, .undef, .undef, .undef, .undef, .undef, .undef, .undef, .undef, .undef, .undef, .undef, .undef, .undef, .undef, .undef, .undef, .undef, .undef, .undef, .undef, .undef], [some (c8.cs B), some (rows Arrival.cs S), some [.int .i64 o1.X, .int .i64 o1.Y, .int .i64 o1.Tick], some [.int .i64 o2.X, .int .i64 o2.Y, .int .i64 o2.Tick], some [.int .i64 o.X, .int .i64 o.Y, .int .i64 o.Tick], some (rows IntS.cs [0, 60, 100, 250, 400, 900]), some (rows IntS.cs [0, 80, 200, 500]), some (rows IntS.cs [0, 1, 20, 200, 1000]), some [.int .i64 n9, .int .i64 v6, .int .i64 v7, .int .i64 0, .int .i64 v8], some (rows IntS.cs [0, 0, 1, 15, -30])], 1⟩),
  (51177, ⟨[.ptr 0 0, .undef, .undef, .osl 1 0 S.length 5, .ptr 2 0, .ptr 3 0, .int .i64 n, .undef, .ptr 8 0, .undef, .undef, .undef, .undef, .undef, .undef, .undef, .undef, .undef, .undef, .undef, .undef, .undef, .undef, .undef, .undef, .undef, .undef, .undef, .undef, .undef, .undef, .undef, .undef, .undef, .undef, .undef, .ptr 4 2, .undef, .undef, .ptr 8 1, .undef, .undef, .int .i64 v7, .undef, .int .i64 o.X, .undef, .int .i64 o.Y, .undef, .undef, .undef, .ptr 0 0, .osl 9 0 5 1, .undef, .undef, .undef, .undef, .undef, .undef, .undef, .undef, .undef, .undef, .undef, .undef, .undef, .undef, .undef, .undef, .undef, .undef, .undef, .undef, .undef, .undef, .undef, .undef, .undef, .undef, .undef, .undef, .undef, .undef, .undef, .undef, .undef, .undef, .undef, .undef, .undef, .undef, .undef, .undef, .undef, .undef, .undef, .undef, .undef, .undef, .undef, .undef], [some (c8.cs B), some (rows Arrival.cs S), some [.int .i64 o1.X, .int .i64 o1.Y, .int .i64 o1.Tick], some [.int .i64 o2.X, .int .i64 o2.Y, .int .i64 o2.Tick], some [.int .i64 o.X, .int .i64 o.Y, .int .i64 o.Tick], some (rows IntS.cs [0, 60, 100, 250, 400, 900]), some (rows IntS.cs [0, 80, 200, 500]), some (rows IntS.cs [0, 1, 20, 200, 1000]), some [.int .i64 n9, .int .i64 v6, .int .i64 v7, .int .i64 0, .int .i64 v8], some (rows IntS.cs [0, 0, 1, 15, -30])], 1⟩),
  (51179, ⟨[.ptr 0 0, .undef, .undef, .osl 1 0 S.length 5, .ptr 2 0, .ptr 3 0, .int .i64 n, .undef, .ptr 8 0, .undef, .undef, .undef, .undef, .undef, .undef, .undef, .undef, .undef, .undef, .undef, .undef, .undef, .undef, .undef, .undef, .undef, .undef, .undef, .undef, .undef, .undef, .undef, .undef, .undef, .undef, .undef, .undef, .int .i64 o.Tick, .undef, .ptr 8 1, .undef, .undef, .int .i64 v7, .undef, .int .i64 o.X, .undef, .int .i64 o.Y, .undef, .undef, .undef, .ptr 0 0, .osl 9 0 5 1, .undef, .undef, .undef, .undef, .undef, .undef, .undef, .undef, .undef, .undef, .undef, .undef, .undef, .undef, .undef, .undef, .undef, .undef, .undef, .undef, .undef, .undef, .undef, .undef, .undef, .undef, .undef, .undef, .undef, .undef, .undef, .undef, .undef, .undef, .undef, .undef, .undef, .undef, .undef, .undef, .undef, .undef, .undef, .undef, .undef, .undef, .undef, .undef], [some (c8.cs B), some (rows Arrival.cs S), some [.int .i64 o1.X, .int .i64 o1.Y, .int .i64 o1.Tick], some [.int .i64 o2.X, .int .i64 o2.Y, .int .i64 o2.Tick], some [.int .i64 o.X, .int .i64 o.Y, .int .i64 o.Tick], some (rows IntS.cs [0, 60, 100, 250, 400, 900]), some (rows IntS.cs [0, 80, 200, 500]), some (rows IntS.cs [0, 1, 20, 200, 1000]), some [.int .i64 n9, .int .i64 v6, .int .i64 v7, .int .i64 0, .int .i64 v8], some (rows IntS.cs [0, 0, 1, 15, -30])], 1⟩),
  (51183, ⟨[.ptr 0 0, .undef, .undef, .osl 1 0 S.length 5, .ptr 2 0, .ptr 3 0, .int .i64 n, .undef, .ptr 8 0, .undef, .undef, .undef, .undef, .undef, .undef, .undef, .undef, .undef, .undef, .undef, .undef, .undef, .undef, .undef, .undef, .undef, .undef, .undef, .undef, .undef, .undef, .undef, .undef, .undef, .undef, .undef, .undef, .undef, .int .i64 m, .ptr 8 1, .undef, .undef, .int .i64 v7, .undef, .int .i64 o.X, .undef, .int .i64 o.Y, .undef, .undef, .undef, .ptr 0 0, .osl 9 0 5 1, .undef, .undef, .undef, .undef, .undef, .undef, .undef, .undef, .undef, .undef, .undef, .undef, .undef, .undef, .undef, .undef, .undef, .undef, .undef, .undef, .undef, .undef, .undef, .undef, .undef, .undef, .undef, .undef, .undef, .undef, .undef, .undef, .undef, .undef, .undef, .undef, .undef, .undef, .undef, .undef, .undef, .undef, .undef, .undef, .undef, .undef, .undef, .undef], [some (c8.cs B), some (rows Arrival.cs S), some [.int .i64 o1.X, .int .i64 o1.Y, .int .i64 o1.Tick], some [.int .i64 o2.X, .int .i64 o2.Y, .int .i64 o2.Tick], some [.int .i64 o.X, .int .i64 o.Y, .int .i64 o.Tick], some (rows IntS.cs [0, 60, 100, 250, 400, 900]), some (rows IntS.cs [0, 80, 200, 500]), some (rows IntS.cs [0, 1, 20, 200, 1000]), some [.int .i64 n9, .int .i64 v6, .int .i64 v7, .int .i64 0, .int .i64 v8], some (rows IntS.cs [0, 0, 1, 15, -30])], 1⟩),
  (51193, ⟨[.ptr 0 0, .undef, .undef, .osl 1 0 S.length 5, .ptr 2 0, .ptr 3 0, .int .i64 n, .undef, .ptr 8 0, .undef, .undef, .undef, .undef, .undef, .undef, .undef, .undef, .undef, .undef, .undef, .undef, .undef, .undef, .undef, .undef, .undef, .undef, .undef, .undef, .undef, .undef, .undef, .undef, .undef, .undef, .undef, .ptr 4 2, .undef, .undef, .undef, .int .i64 v6, .undef, .int .i64 v7, .undef, .int .i64 o.X, .undef, .int .i64 o.Y, .undef, .undef, .undef, .ptr 0 0, .osl 9 0 5 1, .undef, .undef, .undef, .undef, .undef, .undef, .undef, .undef, .undef, .undef, .undef, .undef, .undef, .undef, .undef, .undef, .undef, .undef, .undef, .undef, .undef, .undef, .undef, .undef, .undef, .undef, .undef, .undef, .undef, .undef, .undef, .undef, .undef, .undef, .undef, .undef, .undef, .undef, .undef, .undef, .undef, .undef, .undef, .undef, .undef, .undef, .undef, .undef], [some (c8.cs B), some (rows Arrival.cs S), some [.int .i64 o1.X, .int .i64 o1.Y, .int .i64 o1.Tick], some [.int .i64 o2.X, .int .i64 o2.Y, .int .i64 o2.Tick], some [.int .i64 o.X, .int .i64 o.Y, .int .i64 o.Tick], some (rows IntS.cs [0, 60, 100, 250, 400, 900]), some (rows IntS.cs [0, 80, 200, 500]), some (rows IntS.cs [0, 1, 20, 200, 1000]), some [.int .i64 n9, .int .i64 v6, .int .i64 v7, .int .i64 0, .int .i64 v8], some (rows IntS.cs [0, 0, 1, 15, -30])], 1⟩),
  (51195, ⟨[.ptr 0 0, .undef, .undef, .osl 1 0 S.length 5, .ptr 2 0, .ptr 3 0, .int .i64 n, .undef, .ptr 8 0, .undef, .undef, .undef, .undef, .undef, .undef, .undef, .undef, .undef, .undef, .undef, .undef, .undef, .undef, .undef, .undef, .undef, .undef, .undef, .undef, .undef, .undef, .undef, .undef, .undef, .undef, .undef, .undef, .int .i64 o.Tick, .undef, .undef, .int .i64 v6, .undef, .int .i64 v7, .undef, .int .i64 o.X, .undef, .int .i64 o.Y, .undef, .undef, .undef, .ptr 0 0, .osl 9 0 5 1, .undef, .undef, .undef, .undef, .undef, .undef, .undef, .undef, .undef, .undef, .undef, .undef, .undef, .undef, .undef, .undef, .undef, .undef, .undef, .undef, .undef, .undef, .undef, .undef, .undef, .undef, .undef, .undef, .undef, .undef, .undef, .undef, .undef, .undef, .undef, .undef, .undef, .undef, .undef, .undef, .undef, .undef, .undef, .undef, .undef, .undef, .undef, .undef], [some (c8.cs B), some (rows Arrival.cs S), some [.int .i64 o1.X, .int .i64 o1.Y, .int .i64 o1.Tick], some [.int .i64 o2.X, .int .i64 o2.Y, .int .i64 o2.Tick], some [.int .i64 o.X, .int .i64 o.Y, .int .i64 o.Tick], some (rows IntS.cs [0, 60, 100, 250, 400, 900]), some (rows IntS.cs [0, 80, 200, 500]), some (rows IntS.cs [0, 1, 20, 200, 1000]), some [.int .i64 n9, .int .i64 v6, .int .i64 v7, .int .i64 0, .int .i64 v8], some (rows IntS.cs [0, 0, 1, 15, -30])], 1⟩),
  (51199, ⟨[.ptr 0 0, .undef, .undef, .osl 1 0 S.length 5, .ptr 2 0, .ptr 3 0, .int .i64 n, .undef, .ptr 8 0, .undef, .undef, .undef, .undef, .undef, .undef, .undef, .undef, .undef, .undef, .undef, .undef, .undef, .undef, .undef, .undef, .undef, .undef, .undef, .undef, .undef, .undef, .undef, .undef, .undef, .undef, .undef, .undef, .undef, .int .i64 m, .undef, .int .i64 v6, .undef, .int .i64 v7, .undef, .int .i64 o.X, .undef, .int .i64 o.Y, .undef, .undef, .undef, .ptr 0 0, .osl 9 0 5 1, .undef, .undef, .undef, .undef, .undef, .undef, .undef, .undef, .undef, .undef, .undef, .undef, .undef, .undef, .undef, .undef, .undef, .undef, .undef, .undef, .undef, .undef, .undef, .undef, .undef, .undef, .undef, .undef, .undef, .undef, .undef, .undef, .undef, .undef, .undef, .undef, .undef, .undef, .undef, .undef, .undef, .undef, .undef, .undef, .undef, .undef, .undef, .undef], [some (c8.cs B), some (rows Arrival.cs S), some [.int .i64 o1.X, .int .i64 o1.Y, .int .i64 o1.Tick], some [.int .i64 o2.X, .int .i64 o2.Y, .int .i64 o2.Tick], some [.int .i64 o.X, .int .i64 o.Y, .int .i64 o.Tick], some (rows IntS.cs [0, 60, 100, 250, 400, 900]), some (rows IntS.cs [0, 80, 200, 500]), some (rows IntS.cs [0, 1, 20, 200, 1000]), some [.int .i64 n9, .int .i64 v6, .int .i64 v7, .int .i64 0, .int .i64 v8], some (rows IntS.cs [0, 0, 1, 15, -30])], 1⟩),
  (53247, ⟨[.ptr 0 0, .undef, .undef, .osl 1 0 S.length 5, .ptr 2 0, .ptr 3 0, .int .i64 n, .undef, .ptr 8 0, .undef, .undef, .undef, .undef, .undef, .undef, .undef, .undef, .undef, .undef, .undef, .undef, .undef, .undef, .undef, .undef, .undef, .undef, .undef, .undef, .undef, .undef, .undef, .undef, .undef, .undef, .undef, .undef, .undef, .int .i64 m, .undef, .undef, .undef, .undef, .undef, .undef, .undef, .undef, .int .i64 q, .undef, .undef, .ptr 0 0, .osl 9 0 5 1, .undef, .undef, .undef, .undef, .undef, .undef, .undef, .undef, .undef, .undef, .undef, .undef, .undef, .undef, .undef, .undef, .undef, .undef, .undef, .undef, .undef, .undef, .undef, .undef, .undef, .undef, .undef, .undef, .undef, .undef, .undef, .undef, .undef, .undef, .undef, .undef, .undef, .undef, .undef, .undef, .undef, .undef, .undef, .undef, .undef, .undef, .undef, .undef], [some (c8.cs B), some (rows Arrival.cs S), some [.int .i64 o1.X, .int .i64 o1.Y, .int .i64 o1.Tick], some [.int .i64 o2.X, .int .i64 o2.Y, .int .i64 o2.Tick], some [.int .i64 o.X, .int .i64 o.Y, .int .i64 o.Tick], some (rows IntS.cs [0, 60, 100, 250, 400, 900]), some (rows IntS.cs [0, 80, 200, 500]), some (rows IntS.cs [0, 1, 20, 200, 1000]), some [.int .i64 n9, .int .i64 v6, .int .i64 v7, .int .i64 0, .int .i64 v8], some (rows IntS.cs [0, 0, 1, 15, -30])], 1⟩),
  (57343, ⟨[.ptr 0 0, .undef, .undef, .osl 1 0 S.length 5, .ptr 2 0, .ptr 3 0, .int .i64 n, .undef, .ptr 8 0, .undef, .undef, .undef, .undef, .undef, .undef, .undef, .undef, .undef, .undef, .undef, .undef, .undef, .undef, .undef, .undef, .undef, .undef, .undef, .undef, .undef, .undef, .undef, .undef, .undef, .undef, .undef, .undef, .undef, .int .i64 m, .undef, .undef, .undef, .undef, .undef, .undef, .undef, .undef, .undef, .int .i64 rt, .undef, .ptr 0 0, .osl 9 0 5 1, .undef, .undef, .undef, .undef, .undef, .undef, .undef, .undef, .undef, .undef, .undef, .undef, .undef, .undef, .undef, .undef, .undef, .undef, .undef, .undef, .undef, .undef, .undef, .undef, .undef, .undef, .undef, .undef, .undef, .undef, .undef, .undef, .undef, .undef, .undef, .undef, .undef, .undef, .undef, .undef, .undef, .undef, .undef, .undef, .undef, .undef, .undef, .undef], [some (c8.cs B), some (rows Arrival.cs S), some [.int .i64 o1.X, .int .i64 o1.Y, .int .i64 o1.Tick], some [.int .i64 o2.X, .int .i64 o2.Y, .int .i64 o2.Tick], some [.int .i64 o.X, .int .i64 o.Y, .int .i64 o.Tick], some (rows IntS.cs [0, 60, 100, 250, 400, 900]), some (rows IntS.cs [0, 80, 200, 500]), some (rows IntS.cs [0, 1, 20, 200, 1000]), some [.int .i64 n9, .int .i64 v6, .int .i64 v7, .int .i64 0, .int .i64 v8], some (rows IntS.cs [0, 0, 1, 15, -30])], 1⟩),
  (65535, ⟨[.ptr 0 0, .undef, .undef, .osl 1 0 S.length 5, .ptr 2 0, .ptr 3 0, .int .i64 n, .undef, .ptr 8 0, .undef, .undef, .undef, .undef, .undef, .undef, .undef, .undef, .undef, .undef, .undef, .undef, .undef, .undef, .undef, .undef, .undef, .undef, .undef, .undef, .undef, .undef, .undef, .undef, .undef, .undef, .undef, .undef, .undef, .undef, .undef, .undef, .undef, .undef, .undef, .undef, .undef, .undef, .undef, .undef, .int .i64 (m + rt), .ptr 0 0, .osl 9 0 5 1, .undef, .undef, .undef, .undef, .undef, .undef, .undef, .undef, .undef, .undef, .undef, .undef, .undef, .undef, .undef, .undef, .undef, .undef, .undef, .undef, .undef, .undef, .undef, .undef, .undef, .undef, .undef, .undef, .undef, .undef, .undef, .undef, .undef, .undef, .undef, .undef, .undef, .undef, .undef, .undef, .undef, .undef, .undef, .undef, .undef, .undef, .undef, .undef], [some (c8.cs B), some (rows Arrival.cs S), some [.int .i64 o1.X, .int .i64 o1.Y, .int .i64 o1.Tick], some [.int .i64 o2.X, .int .i64 o2.Y, .int .i64 o2.Tick], some [.int .i64 o.X, .int .i64 o.Y, .int .i64 o.Tick], some (rows IntS.cs [0, 60, 100, 250, 400, 900]), some (rows IntS.cs [0, 80, 200, 500]), some (rows IntS.cs [0, 1, 20, 200, 1000]), some [.int .i64 n9, .int .i64 v6, .int .i64 v7, .int .i64 0, .int .i64 v8], some (rows IntS.cs [0, 0, 1, 15, -30])], 1⟩),
  (131071, ⟨[.ptr 0 0, .undef, .undef, .osl 1 0 S.length 5, .ptr 2 0, .ptr 3 0, .int .i64 n, .undef, .ptr 8 0, .undef, .undef, .undef, .undef, .undef, .undef, .undef, .undef, .undef, .undef, .undef, .undef, .undef, .undef, .undef, .undef, .undef, .undef, .undef, .undef, .undef, .undef, .undef, .undef, .undef, .undef, .undef, .undef, .undef, .undef, .undef, .undef, .undef, .undef, .undef, .undef, .undef, .undef, .undef, .undef, .int .i64 (m + rt), .undef, .undef, .int .i64 v9, .undef, .undef, .undef, .undef, .undef, .undef, .undef, .undef, .undef, .undef, .undef, .undef, .undef, .undef, .undef, .undef, .undef, .undef, .undef, .undef, .undef, .undef, .undef, .undef, .undef, .undef, .undef, .undef, .undef, .undef, .undef, .undef, .undef, .undef, .undef, .undef, .undef, .undef, .undef, .undef, .undef, .undef, .undef, .undef, .undef, .undef, .undef], [some (c9.cs B), some (rows Arrival.cs S), some [.int .i64 o1.X, .int .i64 o1.Y, .int .i64 o1.Tick], some [.int .i64 o2.X, .int .i64 o2.Y, .int .i64 o2.Tick], some [.int .i64 o.X, .int .i64 o.Y, .int .i64 o.Tick], some (rows IntS.cs [0, 60, 100, 250, 400, 900]), some (rows IntS.cs [0, 80, 200, 500]), some (rows IntS.cs [0, 1, 20, 200, 1000]), some [.int .i64 n9, .int .i64 v6, .int .i64 v7, .int .i64 0, .int .i64 v8]], 1⟩),
  (262143, ⟨[.ptr 0 0, .undef, .undef, .osl 1 0 S.length 5, .ptr 2 0, .ptr 3 0, .int .i64 n, .undef, .ptr 8 0, .undef, .undef, .undef, .undef, .undef, .undef, .undef, .undef, .undef, .undef, .undef, .undef, .undef, .undef, .undef, .undef, .undef, .undef, .undef, .undef, .undef, .undef, .undef, .undef, .undef, .undef, .undef, .undef, .undef, .undef, .undef, .undef, .undef, .undef, .undef, .undef, .undef, .undef, .undef, .undef, .undef, .undef, .undef, .undef, .int .i64 (m + rt + v9), .undef, .undef, .undef, .undef, .undef, .undef, .undef, .undef, .undef, .undef, .undef, .undef, .undef, .undef, .undef, .undef, .undef, .undef, .undef, .undef, .undef, .undef, .undef, .undef, .undef, .undef, .undef, .undef, .undef, .undef, .undef, .undef, .undef, .undef, .undef, .undef, .undef, .undef, .undef, .undef, .undef, .undef, .undef, .undef, .undef, .undef], [some (c9.cs B), some (rows Arrival.cs S), some [.int .i64 o1.X, .int .i64 o1.Y, .int .i64 o1.Tick], some [.int .i64 o2.X, .int .i64 o2.Y, .int .i64 o2.Tick], some [.int .i64 o.X, .int .i64 o.Y, .int .i64 o.Tick], some (rows IntS.cs [0, 60, 100, 250, 400, 900]), some (rows IntS.cs [0, 80, 200, 500]), some (rows IntS.cs [0, 1, 20, 200, 1000]), some [.int .i64 n9, .int .i64 v6, .int .i64 v7, .int .i64 0, .int .i64 v8]], 1⟩),
  (524287, ⟨[.ptr 0 0, .undef, .undef, .osl 1 0 S.length 5, .ptr 2 0, .ptr 3 0, .int .i64 n, .undef, .ptr 8 0, .undef, .undef, .undef, .undef, .undef, .undef, .undef, .undef, .undef, .undef, .undef, .undef, .undef, .undef, .undef, .undef, .undef, .undef, .undef, .undef, .undef, .undef, .undef, .undef, .undef, .undef, .undef, .undef, .undef, .undef, .undef, .undef, .undef, .undef, .undef, .undef, .undef, .undef, .undef, .undef, .undef, .undef, .undef, .undef, .int .i64 (m + rt + v9), .ptr 8 3, .undef, .undef, .undef, .undef, .undef, .undef, .undef, .undef, .undef, .undef, .undef, .undef, .undef, .undef, .undef, .undef, .undef, .undef, .undef, .undef, .undef, .undef, .undef, .undef, .undef, .undef, .undef, .undef, .undef, .undef, .undef, .undef, .undef, .undef, .undef, .undef, .undef, .undef, .undef, .undef, .undef, .undef, .undef, .undef, .undef], [some (c9.cs B), some (rows Arrival.cs S), some [.int .i64 o1.X, .int .i64 o1.Y, .int .i64 o1.Tick], some [.int .i64 o2.X, .int .i64 o2.Y, .int .i64 o2.Tick], some [.int .i64 o.X, .int .i64 o.Y, .int .i64 o.Tick], some (rows IntS.cs [0, 60, 100, 250, 400, 900]), some (rows IntS.cs [0, 80, 200, 500]), some (rows IntS.cs [0, 1, 20, 200, 1000]), some [.int .i64 n9, .int .i64 v6, .int .i64 v7, .int .i64 0, .int .i64 v8]], 1⟩),
  (1048575, ⟨[.ptr 0 0, .undef, .undef, .osl 1 0 S.length 5, .ptr 2 0, .ptr 3 0, .int .i64 n, .undef, .ptr 8 0, .undef, .undef, .undef, .undef, .undef, .undef, .undef, .undef, .undef, .undef, .undef, .undef, .undef, .undef, .undef, .undef, .undef, .undef, .undef, .undef, .undef, .undef, .undef, .undef, .undef, .undef, .undef, .undef, .undef, .undef, .undef, .undef, .undef, .undef, .undef, .undef, .undef, .undef, .undef, .undef, .undef, .undef, .undef, .undef, .undef, .undef, .undef, .undef, .undef, .undef, .undef, .undef, .undef, .undef, .undef, .undef, .undef, .undef, .undef, .undef, .undef, .undef, .undef, .undef, .undef, .undef, .undef, .undef, .undef, .undef, .undef, .undef, .undef, .undef, .undef, .undef, .undef, .undef, .undef, .undef, .undef, .undef, .undef, .undef, .undef, .undef, .undef, .undef, .undef, .undef, .undef], [some (c9.cs B), some (rows Arrival.cs S), some [.int .i64 o1.X, .int .i64 o1.Y, .int .i64 o1.Tick], some [.int .i64 o2.X, .int .i64 o2.Y, .int .i64 o2.Tick], some [.int .i64 o.X, .int .i64 o.Y, .int .i64 o.Tick], some (rows IntS.cs [0, 60, 100, 250, 400, 900]), some (rows IntS.cs [0, 80, 200, 500]), some (rows IntS.cs [0, 1, 20, 200, 1000]), some [.int .i64 n9, .int .i64 v6, .int .i64 v7, .int .i64 (m + rt + v9), .int .i64 v8]], 1⟩)]
theorem arrivals_ok {B : List Int} (hB : CB B) {k : Int} (hk : k ≤ 400000) {c : Cur} (hc : c.le k) : CtrP Try.prog 25 [.ptr 0 0] [some (c.cs B)] (arrsP B (k + 1000)) := by
 refine CtrP.intro Try.mixed Try.func25 rfl Try.okF25 ?_
 simp -implicitDefEqProofs -dsimp only [go_sem, Try.ntmps25, Try.results25]
 (repeat ((repeat1' (first | simp -implicitDefEqProofs -dsimp only [go_sem] | simp -dsimp (disch := omega) only [wrap_i64])); repeat (with_reducible refine sideA ?_)))
 refine callS.rel [0] (quakeOrigin_ok hB (by omega) hc) (by decide) ⟨leO, trivial⟩ (lendCur rfl) rfl (fun r hout hΦ => ?_)
 obtain ⟨o1, c1, ho1, hc1, rfl, rfl⟩ := hΦ
 refine ⟨⟨⟨rfl, rfl⟩, trivial⟩, ?_⟩
 (repeat ((repeat1' (first | simp -implicitDefEqProofs -dsimp only [go_sem, Cur.ren, Origin.v, map_ren_rows] | simp -dsimp (disch := omega) only [wrap_i64])); repeat (with_reducible refine sideA ?_)))
 refine callS.rel [0] (quakeOrigin_ok hB (by omega) hc1) (by decide) ⟨leO, trivial⟩ (lendCur rfl) rfl (fun r hout hΦ => ?_)
 obtain ⟨o2, c2, ho2, hc2, rfl, rfl⟩ := hΦ
 refine ⟨⟨⟨rfl, rfl⟩, trivial⟩, ?_⟩
 (repeat ((repeat1' (first | simp -implicitDefEqProofs -dsimp only [go_sem, Cur.ren, Origin.v, map_ren_rows] | simp -dsimp (disch := omega) only [wrap_i64])); repeat (with_reducible refine sideA ?_)))
 refine LoopT.intro (fun x : Nat × List Arrival × Cur => (1 ≤ x.1 ∧ x.1 ≤ 7) ∧ x.2.1.length + 1 ≤ x.1 ∧ x.2.2.le (k + 60 + 40 * (x.1 : Int))) (fun x => ⟨[.ptr 0 0, .undef, .undef, .osl 1 0 x.2.1.length 5, .ptr 2 0, .ptr 3 0, .int .i64 x.1, .undef, .undef, .undef, .undef, .undef, .undef, .undef, .undef, .undef, .undef, .undef, .undef, .undef, .undef, .undef, .undef, .undef, .undef, .undef, .undef, .undef, .undef, .undef, .undef, .undef, .undef, .undef, .undef, .undef, .undef, .undef, .undef, .undef, .undef, .undef, .undef, .undef, .undef, .undef, .undef, .undef, .undef, .undef, .undef, .undef, .undef, .undef, .undef, .undef, .undef, .undef, .undef, .undef, .undef, .undef, .undef, .undef, .undef, .undef, .undef, .undef, .undef, .undef, .undef, .undef, .undef, .undef, .undef, .undef, .undef, .undef, .undef, .undef, .undef, .undef, .undef, .undef, .undef, .undef, .undef, .undef, .undef, .undef, .undef, .undef, .undef, .undef, .undef, .undef, .undef, .undef, .undef, .undef], [some (x.2.2.cs B), some (rows Arrival.cs x.2.1), some o1.cs, some o2.cs], 1⟩) (fun x => 7 - x.1) (1, [], c2) ⟨by simp, by simp, lmonoQ hc2 (by simp only []; omega)⟩ ?_ (fun x hx => ?_)
 · refine Weak.cut (4) (by simp) (by simp) ?_ ?_
   · simp [LeC, LeV, ren, cutF]
   · simp [cutH, cutB, Cur.ren, ren, map_ren_rows, rows_nil, Origin.cs]
 obtain ⟨n, S, c3⟩ := x
 obtain ⟨y0, y1, hc3⟩ := hx
 dsimp only at y0 y1 hc3
 simp -implicitDefEqProofs -dsimp only [go_sem, Origin.cs]
 refine condT.split (fun h1 => ?_) (fun h1 => ?_)
 · have hn : n < 7 := by have := of_decide_eq_true h1; omega
   (repeat ((repeat1' (first | simp -implicitDefEqProofs -dsimp only [go_sem, h1] | simp -dsimp (disch := omega) only [wrap_i64])); repeat (with_reducible refine sideA ?_)))
   refine one_call hB hc3 (by omega) 3 (by omega) rfl (fun vc4 c4 hc4 => ?_)
   (repeat ((repeat1' (first | simp -implicitDefEqProofs -dsimp only [go_sem, Cur.ren, map_ren_rows] | simp -dsimp (disch := omega) only [wrap_i64])); repeat (with_reducible refine sideA ?_)))
   refine condT.split (fun h2 => ?_) (fun h2 => ?_)
   · (repeat ((repeat1' (first | simp -implicitDefEqProofs -dsimp only [go_sem, h2] | simp -dsimp (disch := omega) only [wrap_i64])); repeat (with_reducible refine sideA ?_)))
     refine ⟨(n + 1, S, c4), ⟨⟨by simp only []; omega, by simp only []; omega⟩, by simp only []; omega, lmonoQ hc4 (by simp only []; omega)⟩, ?_, by simp only []; omega⟩
     refine Weak.cut (4) (by simp) (by simp) ?_ ?_
     · simp [LeC, LeV, ren, cutF]
     · simp [cutH, cutB, cutF, Cur.ren, ren, map_ren_rows, Origin.cs]
   · (repeat ((repeat1' (first | simp -implicitDefEqProofs -dsimp only [go_sem, h2, Cur.ren, Origin.cs] | simp -dsimp (disch := omega) only [wrap_i64])); repeat (with_reducible refine sideA ?_)))
     refine one_call hB hc4 (by omega) 3 (by omega) rfl (fun vc5 c5 hc5 => ?_)
     (repeat ((repeat1' (first | simp -implicitDefEqProofs -dsimp only [go_sem, Cur.ren, map_ren_rows] | simp -dsimp (disch := omega) only [wrap_i64])); repeat (with_reducible refine sideA ?_)))
     refine condT.split (fun h3 => ?_) (fun h3 => ?_)
     · (repeat ((repeat1' (first | simp -implicitDefEqProofs -dsimp only [go_sem, h3, Cur.ren] | simp -dsimp (disch := omega) only [wrap_i64])); repeat (with_reducible refine sideA ?_)))
       refine among_call hB hc5 (by omega) [0, 60, 100, 250, 400, 900] (by simp) (by simp) rfl rfl rfl (fun vc6 c6 pvc6 hc6 => ?_)
       (repeat ((repeat1' (first | simp -implicitDefEqProofs -dsimp only [go_sem, Cur.ren, map_ren_rows] | simp -dsimp (disch := omega) only [wrap_i64])); repeat (with_reducible refine sideA ?_)))
       refine among_call hB hc6 (by omega) [0, 80, 200, 500] (by simp) (by simp) rfl rfl rfl (fun vc7 c7 pvc7 hc7 => ?_)
       (repeat ((repeat1' (first | simp -implicitDefEqProofs -dsimp only [go_sem, Cur.ren, map_ren_rows] | simp -dsimp (disch := omega) only [wrap_i64])); repeat (with_reducible refine sideA ?_)))
       refine among_call hB hc7 (by omega) [0, 1, 20, 200, 1000] (by simp) (by simp) rfl rfl rfl (fun vc8 c8 pvc8 hc8 => ?_)
       (repeat ((repeat1' (first | simp -implicitDefEqProofs -dsimp only [go_sem, Cur.ren, map_ren_rows] | simp -dsimp (disch := omega) only [wrap_i64])); repeat (with_reducible refine sideA ?_)))
       obtain ⟨m, hme⟩ : ∃ m, m = max 0 o2.Tick := ⟨_, rfl⟩
       have hm : 0 ≤ m ∧ m ≤ 1000001 := by have := ho2.2.2; omega
       have pm := l1Most_ok 0 o2.Tick
       rw [← hme] at pm
       have bx := memB (a := 0) (b := 900) pvc6 (by decide)
       have by' := memB (a := 0) (b := 500) pvc7 (by decide)
       have psq := l10SquareG_ok vc6 vc7 o2.X o2.Y (by omega) (by omega) ho2.1 (by have := ho2.2.1; omega)
       have hq := sqG_bd (x := vc6) (y := vc7) (u := o2.X) (v := o2.Y) (by omega) (by omega) ho2.1 (by have := ho2.2.1; omega)
       generalize sqG vc6 vc7 o2.X o2.Y = q at psq hq
       have prt := l10Root_ok q hq.1 hq.2
       have hrb := isq_bd hq
       obtain ⟨rt, hrt⟩ : ∃ rt : Int, rt = isq q.toNat := ⟨_, rfl⟩
       rw [← hrt] at prt hrb
       have p9 := among_ok hB (c := c8) ⟨hc8.1, by have := hc8.2; omega⟩ [0, 0, 1, 15, -30] (by simp) (by simp)
       have hc9 := pickC_le (B := B) (n := (([0, 0, 1, 15, -30] : List Int).length : Int)) hc8
       have pvc9 := amongV_mem hB (K := [0, 0, 1, 15, -30]) (by simp) hc8.1
       generalize amongV B [0, 0, 1, 15, -30] c8 = vc9 at p9 pvc9
       generalize pickC B (([0, 0, 1, 15, -30] : List Int).length : Int) c8 = c9 at p9 hc9
       have hsn : rows Arrival.cs S ++ [.int .i64 (9 * (n : Int)), .int .i64 vc6, .int .i64 vc7, .int .i64 (max 0 (min 1000000 (m + rt + vc9))), .int .i64 vc8] = rows Arrival.cs (S ++ [⟨9 * (n : Int), vc6, vc7, max 0 (min 1000000 (m + rt + vc9)), vc8⟩]) := rows_snoc (cs := Arrival.cs) S ⟨9 * (n : Int), vc6, vc7, max 0 (min 1000000 (m + rt + vc9)), vc8⟩
       have b9 := memB (a := -30) (b := 15) pvc9 (by decide)
       refine clT.graph [(1048575, []), (524287, [19]), (262143, [18]), (131071, [17]), (65535, [16]), (57343, [13]), (53247, [12]), (51199, [11]), (51195, [2]), (51193, [1]), (51183, [4]), (51179, [2, 4]), (51177, [1, 4]), (51135, [6]), (51131, [2, 6]), (51129, [1, 6]), (51119, [4, 6]), (51115, [2, 4, 6]), (51113, [1, 4, 6]), (50943, [8]), (50939, [2, 8]), (50937, [1, 8]), (50927, [4, 8]), (50923, [2, 4, 8]), (50921, [1, 4, 8]), (50879, [6, 8]), (50875, [2, 6, 8]), (50873, [1, 6, 8]), (50863, [4, 6, 8]), (50859, [2, 4, 6, 8]), (50857, [1, 4, 6, 8]), (50175, [10]), (50171, [2, 10]), (50169, [1, 10]), (50159, [4, 10]), (50155, [2, 4, 10]), (50153, [1, 4, 10]), (50111, [6, 10]), (50107, [2, 6, 10]), (50105, [1, 6, 10]), (50095, [4, 6, 10]), (50091, [2, 4, 6, 10]), (50089, [1, 4, 6, 10]), (49919, [8, 10]), (49915, [2, 8, 10]), (49913, [1, 8, 10]), (49903, [4, 8, 10]), (49899, [2, 4, 8, 10]), (49897, [1, 4, 8, 10]), (49855, [6, 8, 10]), (49851, [2, 6, 8, 10]), (49849, [1, 6, 8, 10]), (49839, [4, 6, 8, 10]), (49835, [2, 4, 6, 8, 10]), (49833, [1, 4, 6, 8, 10]), (32767, [15]), (24575, [13]), (20479, [12, 15]), (18431, [11, 15]), (18427, [2, 15]), (18425, [1, 15]), (18415, [4, 15]), (18411, [2, 4, 15]), (18409, [1, 4, 15]), (18367, [6, 15]), (18363, [2, 6, 15]), (18361, [1, 6, 15]), (18351, [4, 6, 15]), (18347, [2, 4, 6, 15]), (18345, [1, 4, 6, 15]), (18175, [8, 15]), (18171, [2, 8, 15]), (18169, [1, 8, 15]), (18159, [4, 8, 15]), (18155, [2, 4, 8, 15]), (18153, [1, 4, 8, 15]), (18111, [6, 8, 15]), (18107, [2, 6, 8, 15]), (18105, [1, 6, 8, 15]), (18095, [4, 6, 8, 15]), (18091, [2, 4, 6, 8, 15]), (18089, [1, 4, 6, 8, 15]), (17407, [10, 15]), (17403, [2, 10, 15]), (17401, [1, 10, 15]), (17391, [4, 10, 15]), (17387, [2, 4, 10, 15]), (17385, [1, 4, 10, 15]), (17343, [6, 10, 15]), (17339, [2, 6, 10, 15]), (17337, [1, 6, 10, 15]), (17327, [4, 6, 10, 15]), (17323, [2, 4, 6, 10, 15]), (17321, [1, 4, 6, 10, 15]), (17151, [8, 10, 15]), (17147, [2, 8, 10, 15]), (17145, [1, 8, 10, 15]), (17135, [4, 8, 10, 15]), (17131, [2, 4, 8, 10, 15]), (17129, [1, 4, 8, 10, 15]), (17087, [6, 8, 10, 15]), (17083, [2, 6, 8, 10, 15]), (17081, [1, 6, 8, 10, 15]), (17071, [4, 6, 8, 10, 15]), (17067, [2, 4, 6, 8, 10, 15]), (17065, [1, 4, 6, 8, 10, 15]), (681, [14]), (169, [9]), (41, [7]), (9, [5]), (1, [3]), (0, [0])] (gA _ (tabR B S o1 o2 o2 c8 c9 n (9 * (n : Int)) vc6 vc7 vc8 vc9 m q rt)) (by kernel_rfl) rfl ?_
       refine ⟨fun s hs => ?_, fun s hs => ?_, fun s hs => ?_, fun s hs => ?_, fun s hs => ?_, fun s hs => ?_, fun s hs => ?_, fun s hs => ?_, fun s hs => ?_, fun s hs => ?_, fun s hs => ?_, fun s hs => ?_, fun s hs => ?_, fun s hs => ?_, fun s hs => ?_, fun s hs => ?_, fun s hs => ?_, fun s hs => ?_, fun s hs => ?_, fun s hs => ?_, fun s hs => ?_, fun s hs => ?_, fun s hs => ?_, fun s hs => ?_, fun s hs => ?_, fun s hs => ?_, fun s hs => ?_, fun s hs => ?_, fun s hs => ?_, fun s hs => ?_, fun s hs => ?_, fun s hs => ?_, fun s hs => ?_, fun s hs => ?_, fun s hs => ?_, fun s hs => ?_, fun s hs => ?_, fun s hs => ?_, fun s hs => ?_, fun s hs => ?_, fun s hs => ?_, fun s hs => ?_, fun s hs => ?_, fun s hs => ?_, fun s hs => ?_, fun s hs => ?_, fun s hs => ?_, fun s hs => ?_, fun s hs => ?_, fun s hs => ?_, fun s hs => ?_, fun s hs => ?_, fun s hs => ?_, fun s hs => ?_, fun s hs => ?_, fun s hs => ?_, fun s hs => ?_, fun s hs => ?_, fun s hs => ?_, fun s hs => ?_, fun s hs => ?_, fun s hs => ?_, fun s hs => ?_, fun s hs => ?_, fun s hs => ?_, fun s hs => ?_, fun s hs => ?_, fun s hs => ?_, fun s hs => ?_, fun s hs => ?_, fun s hs => ?_, fun s hs => ?_, fun s hs => ?_, fun s hs => ?_, fun s hs => ?_, fun s hs => ?_, fun s hs => ?_, fun s hs => ?_, fun s hs => ?_, fun s hs => ?_, fun s hs => ?_, fun s hs => ?_, fun s hs => ?_, fun s hs => ?_, fun s hs => ?_, fun s hs => ?_, fun s hs => ?_, fun s hs => ?_, fun s hs => ?_, fun s hs => ?_, fun s hs => ?_, fun s hs => ?_, fun s hs => ?_, fun s hs => ?_, fun s hs => ?_, fun s hs => ?_, fun s hs => ?_, fun s hs => ?_, fun s hs => ?_, fun s hs => ?_, fun s hs => ?_, fun s hs => ?_, fun s hs => ?_, fun s hs => ?_, fun s hs => ?_, fun s hs => ?_, fun s hs => ?_, fun s hs => ?_, fun s hs => ?_, fun s hs => ?_, fun s hs => ?_, fun s hs => ?_, trivial⟩
       · obtain rfl := Option.some.inj (show some _ = some s from hs)
         (repeat ((repeat1' (first | simp -implicitDefEqProofs -dsimp only [go_sem] | simp -dsimp (disch := omega) only [wrap_i64])); repeat (with_reducible refine sideA ?_)))
         (first | refine callT.at (l1Least_ok 1000000 (m + rt + vc9)) ⟨leA, leA, trivial⟩ ?_ | refine callS.at (l1Least_ok 1000000 (m + rt + vc9)) ⟨leA, leA, trivial⟩ ?_)
         (repeat ((repeat1' (first | simp -implicitDefEqProofs -dsimp only [go_sem] | simp -dsimp (disch := omega) only [wrap_i64])); repeat (with_reducible refine sideA ?_)))
         (first | refine callT.at (l1Most_ok 0 (min 1000000 (m + rt + vc9))) ⟨leA, leA, trivial⟩ ?_ | refine callS.at (l1Most_ok 0 (min 1000000 (m + rt + vc9))) ⟨leA, leA, trivial⟩ ?_)
         (repeat ((repeat1' (first | simp -implicitDefEqProofs -dsimp only [go_sem, hsn] | simp -dsimp (disch := omega) only [wrap_i64])); repeat (with_reducible refine sideA ?_)))
         refine ⟨(n + 1, S ++ [⟨9 * (n : Int), vc6, vc7, max 0 (min 1000000 (m + rt + vc9)), vc8⟩], c9), ⟨⟨by simp only []; omega, by simp only []; omega⟩, by simp only [List.length_append, List.length_cons, List.length_nil]; omega, lmonoQ hc9 (by simp only []; omega)⟩, ?_, by simp only []; omega⟩
         refine Weak.cut (4) (by simp) (by simp) ?_ ?_
         · simp [LeC, LeV, ren, cutF]
         · simp [cutH, cutB, cutF, Cur.ren, ren, map_ren_rows, Origin.cs]
       all_goals (obtain rfl := Option.some.inj (show some _ = some s from hs))
       all_goals (repeat' (first | exact trivial | refine nextA_cons rfl ?_ ?_))
       all_goals (repeat ((repeat1' (first | simp -implicitDefEqProofs -dsimp only [go_sem] | simp -dsimp (disch := omega) only [wrap_i64])); repeat (with_reducible refine sideA ?_)))
       all_goals (try ((first | refine callS.lend [0, 9] false p9 (by decide) ⟨leO, leO, trivial⟩ (lendCur2 rfl rfl) (growCur2 B _ _) (.inl rfl) ?_ | (first | refine callT.at (pm) ⟨leA, leA, trivial⟩ ?_ | refine callS.at (pm) ⟨leA, leA, trivial⟩ ?_) | (first | refine callT.at (psq) ⟨leA, leA, leA, leA, trivial⟩ ?_ | refine callS.at (psq) ⟨leA, leA, leA, leA, trivial⟩ ?_) | (first | refine callT.at (prt) ⟨leA, trivial⟩ ?_ | refine callS.at (prt) ⟨leA, trivial⟩ ?_)); (repeat ((repeat1' (first | simp -implicitDefEqProofs -dsimp only [go_sem, Cur.ren, map_ren_rows] | simp -dsimp (disch := omega) only [wrap_i64])); repeat (with_reducible refine sideA ?_)))))
       refine ⟨_, rfl, Weak.pk [0, 1, 2, 3, 4, 5, 6, 7, 8] ?_ ?_⟩
       rotate_left 2
       refine ⟨_, rfl, Weak.pk [0, 1, 2, 3, 4, 5, 6, 7, 8] ?_ ?_⟩
       rotate_left 2
       refine ⟨_, rfl, Weak.pk [0, 1, 2, 3, 4, 5, 6, 7, 8] ?_ ?_⟩
       rotate_left 2
       refine ⟨_, rfl, Weak.pk [0, 1, 2, 3, 4, 5, 6, 7, 8] ?_ ?_⟩
       rotate_left 2
       refine ⟨_, rfl, Weak.pk [0, 1, 2, 3, 4, 5, 6, 7, 8, 9] ?_ ?_⟩
       rotate_left 2
       refine ⟨_, rfl, Weak.pk [0, 1, 2, 3, 4, 5, 6, 7, 8, 9] ?_ ?_⟩
       rotate_left 2
       refine ⟨_, rfl, Weak.pk [0, 1, 2, 3, 4, 5, 6, 7, 8, 9] ?_ ?_⟩
       rotate_left 2
       refine ⟨_, rfl, Weak.pk [0, 1, 2, 3, 4, 5, 6, 7, 8, 9] ?_ ?_⟩
       rotate_left 2
       refine ⟨_, rfl, Weak.pk [0, 1, 2, 3, 4, 5, 6, 7, 8, 9] ?_ ?_⟩
       rotate_left 2
       refine ⟨_, rfl, Weak.pk [0, 1, 2, 3, 4, 5, 6, 7, 8, 9] ?_ ?_⟩
       rotate_left 2
       refine ⟨_, rfl, Weak.pk [0, 1, 2, 3, 4, 5, 6, 7, 8, 9] ?_ ?_⟩
       rotate_left 2
       refine ⟨_, rfl, Weak.pk [0, 1, 2, 3, 4, 5, 6, 7, 8, 9] ?_ ?_⟩
       rotate_left 2
       refine ⟨_, rfl, Weak.pk [0, 1, 2, 3, 4, 5, 6, 7, 8, 9] ?_ ?_⟩
       rotate_left 2
       refine ⟨_, rfl, Weak.pk [0, 1, 2, 3, 4, 5, 6, 7, 8, 9] ?_ ?_⟩
       rotate_left 2
       refine ⟨_, rfl, Weak.pk [0, 1, 2, 3, 4, 5, 6, 7, 8, 9] ?_ ?_⟩
       rotate_left 2
       refine ⟨_, rfl, Weak.pk [0, 1, 2, 3, 4, 5, 6, 7, 8, 9] ?_ ?_⟩
       rotate_left 2
       refine ⟨_, rfl, Weak.pk [0, 1, 2, 3, 4, 5, 6, 7, 8, 9] ?_ ?_⟩
       rotate_left 2
       refine ⟨_, rfl, Weak.pk [0, 1, 2, 3, 4, 5, 6, 7, 8, 9] ?_ ?_⟩
       rotate_left 2
       refine ⟨_, rfl, Weak.pk [0, 1, 2, 3, 4, 5, 6, 7, 8, 9] ?_ ?_⟩
       rotate_left 2
       refine ⟨_, rfl, Weak.pk [0, 1, 2, 3, 4, 5, 6, 7, 8, 9] ?_ ?_⟩
       rotate_left 2
       refine ⟨_, rfl, Weak.pk [0, 1, 2, 3, 4, 5, 6, 7, 8, 9] ?_ ?_⟩
       rotate_left 2
       refine ⟨_, rfl, Weak.pk [0, 1, 2, 3, 4, 5, 6, 7, 8, 9] ?_ ?_⟩
       rotate_left 2
       refine ⟨_, rfl, Weak.pk [0, 1, 2, 3, 4, 5, 6, 7, 8, 9] ?_ ?_⟩
       rotate_left 2
       refine ⟨_, rfl, Weak.pk [0, 1, 2, 3, 4, 5, 6, 7, 8, 9] ?_ ?_⟩
       rotate_left 2
       refine ⟨_, rfl, Weak.pk [0, 1, 2, 3, 4, 5, 6, 7, 8, 9] ?_ ?_⟩
       rotate_left 2
       refine ⟨_, rfl, Weak.pk [0, 1, 2, 3, 4, 5, 6, 7, 8, 9] ?_ ?_⟩
       rotate_left 2
       refine ⟨_, rfl, Weak.pk [0, 1, 2, 3, 4, 5, 6, 7, 8, 9] ?_ ?_⟩
       rotate_left 2
       refine ⟨_, rfl, Weak.pk [0, 1, 2, 3, 4, 5, 6, 7, 8, 9] ?_ ?_⟩
       rotate_left 2
       refine ⟨_, rfl, Weak.pk [0, 1, 2, 3, 4, 5, 6, 7, 8, 9] ?_ ?_⟩
       rotate_left 2
       refine ⟨_, rfl, Weak.pk [0, 1, 2, 3, 4, 5, 6, 7, 8, 9] ?_ ?_⟩
       rotate_left 2
       refine ⟨_, rfl, Weak.pk [0, 1, 2, 3, 4, 5, 6, 7, 8, 9] ?_ ?_⟩
       rotate_left 2
       refine ⟨_, rfl, Weak.pk [0, 1, 2, 3, 4, 5, 6, 7, 8, 9] ?_ ?_⟩
       rotate_left 2
       refine ⟨_, rfl, Weak.pk [0, 1, 2, 3, 4, 5, 6, 7, 8, 9] ?_ ?_⟩
       rotate_left 2
       refine ⟨_, rfl, Weak.pk [0, 1, 2, 3, 4, 5, 6, 7, 8, 9] ?_ ?_⟩
       rotate_left 2
       refine ⟨_, rfl, Weak.pk [0, 1, 2, 3, 4, 5, 6, 7, 8, 9] ?_ ?_⟩
       rotate_left 2
       refine ⟨_, rfl, Weak.pk [0, 1, 2, 3, 4, 5, 6, 7, 8, 9] ?_ ?_⟩
       rotate_left 2
       refine ⟨_, rfl, Weak.pk [0, 1, 2, 3, 4, 5, 6, 7, 8, 9] ?_ ?_⟩
       rotate_left 2
       refine ⟨_, rfl, Weak.pk [0, 1, 2, 3, 4, 5, 6, 7, 8, 9] ?_ ?_⟩
       rotate_left 2
       refine ⟨_, rfl, Weak.pk [0, 1, 2, 3, 4, 5, 6, 7, 8, 9] ?_ ?_⟩
       rotate_left 2
       refine ⟨_, rfl, Weak.pk [0, 1, 2, 3, 4, 5, 6, 7, 8, 9] ?_ ?_⟩
       rotate_left 2
       refine ⟨_, rfl, Weak.pk [0, 1, 2, 3, 4, 5, 6, 7, 8, 9] ?_ ?_⟩
       rotate_left 2
       refine ⟨_, rfl, Weak.pk [0, 1, 2, 3, 4, 5, 6, 7, 8, 9] ?_ ?_⟩
       rotate_left 2
       refine ⟨_, rfl, Weak.pk [0, 1, 2, 3, 4, 5, 6, 7, 8, 9] ?_ ?_⟩
       rotate_left 2
       refine ⟨_, rfl, Weak.pk [0, 1, 2, 3, 4, 5, 6, 7, 8, 9] ?_ ?_⟩
       rotate_left 2
       refine ⟨_, rfl, Weak.pk [0, 1, 2, 3, 4, 5, 6, 7, 8, 9] ?_ ?_⟩
       rotate_left 2
       refine ⟨_, rfl, Weak.pk [0, 1, 2, 3, 4, 5, 6, 7, 8, 9] ?_ ?_⟩
       rotate_left 2
       refine ⟨_, rfl, Weak.pk [0, 1, 2, 3, 4, 5, 6, 7, 8, 9] ?_ ?_⟩
       rotate_left 2
       refine ⟨_, rfl, Weak.pk [0, 1, 2, 3, 4, 5, 6, 7, 8, 9] ?_ ?_⟩
       rotate_left 2
       refine ⟨_, rfl, Weak.pk [0, 1, 2, 3, 4, 5, 6, 7, 8, 9] ?_ ?_⟩
       rotate_left 2
       refine ⟨_, rfl, Weak.pk [0, 1, 2, 3, 4, 5, 6, 7, 8, 9] ?_ ?_⟩
       rotate_left 2
       refine ⟨_, rfl, Weak.pk [0, 1, 2, 3, 4, 5, 6, 7, 8, 9] ?_ ?_⟩
       rotate_left 2
       refine ⟨_, rfl, Weak.pk [0, 1, 2, 3, 4, 5, 6, 7, 8, 9] ?_ ?_⟩
       rotate_left 2
       refine ⟨_, rfl, Weak.pk [0, 1, 2, 3, 4, 5, 6, 7, 8, 9] ?_ ?_⟩
       rotate_left 2
       refine ⟨_, rfl, Weak.pk [0, 1, 2, 3, 4, 5, 6, 7, 8, 9] ?_ ?_⟩
       rotate_left 2
       refine ⟨_, rfl, Weak.pk [0, 1, 2, 3, 4, 5, 6, 7, 8, 9] ?_ ?_⟩
       rotate_left 2
       refine ⟨_, rfl, Weak.pk [0, 1, 2, 3, 4, 5, 6, 7, 8, 9] ?_ ?_⟩
       rotate_left 2
       refine ⟨_, rfl, Weak.pk [0, 1, 2, 3, 4, 5, 6, 7, 8, 9] ?_ ?_⟩
       rotate_left 2
       refine ⟨_, rfl, Weak.pk [0, 1, 2, 3, 4, 5, 6, 7, 8, 9] ?_ ?_⟩
       rotate_left 2
       refine ⟨_, rfl, Weak.pk [0, 1, 2, 3, 4, 5, 6, 7, 8, 9] ?_ ?_⟩
       rotate_left 2
       refine ⟨_, rfl, Weak.pk [0, 1, 2, 3, 4, 5, 6, 7, 8, 9] ?_ ?_⟩
       rotate_left 2
       refine ⟨_, rfl, Weak.pk [0, 1, 2, 3, 4, 5, 6, 7, 8, 9] ?_ ?_⟩
       rotate_left 2
       refine ⟨_, rfl, Weak.pk [0, 1, 2, 3, 4, 5, 6, 7, 8, 9] ?_ ?_⟩
       rotate_left 2
       refine ⟨_, rfl, Weak.pk [0, 1, 2, 3, 4, 5, 6, 7, 8, 9] ?_ ?_⟩
       rotate_left 2
       refine ⟨_, rfl, Weak.pk [0, 1, 2, 3, 4, 5, 6, 7, 8, 9] ?_ ?_⟩
       rotate_left 2
       refine ⟨_, rfl, Weak.pk [0, 1, 2, 3, 4, 5, 6, 7, 8, 9] ?_ ?_⟩
       rotate_left 2
       refine ⟨_, rfl, Weak.pk [0, 1, 2, 3, 4, 5, 6, 7, 8, 9] ?_ ?_⟩
       rotate_left 2
       refine ⟨_, rfl, Weak.pk [0, 1, 2, 3, 4, 5, 6, 7, 8, 9] ?_ ?_⟩
       rotate_left 2
       refine ⟨_, rfl, Weak.pk [0, 1, 2, 3, 4, 5, 6, 7, 8, 9] ?_ ?_⟩
       rotate_left 2
       refine ⟨_, rfl, Weak.pk [0, 1, 2, 3, 4, 5, 6, 7, 8, 9] ?_ ?_⟩
       rotate_left 2
       refine ⟨_, rfl, Weak.pk [0, 1, 2, 3, 4, 5, 6, 7, 8, 9] ?_ ?_⟩
       rotate_left 2
       refine ⟨_, rfl, Weak.pk [0, 1, 2, 3, 4, 5, 6, 7, 8, 9] ?_ ?_⟩
       rotate_left 2
       refine ⟨_, rfl, Weak.pk [0, 1, 2, 3, 4, 5, 6, 7, 8, 9] ?_ ?_⟩
       rotate_left 2
       refine ⟨_, rfl, Weak.pk [0, 1, 2, 3, 4, 5, 6, 7, 8, 9] ?_ ?_⟩
       rotate_left 2
       refine ⟨_, rfl, Weak.pk [0, 1, 2, 3, 4, 5, 6, 7, 8, 9] ?_ ?_⟩
       rotate_left 2
       refine ⟨_, rfl, Weak.pk [0, 1, 2, 3, 4, 5, 6, 7, 8, 9] ?_ ?_⟩
       rotate_left 2
       refine ⟨_, rfl, Weak.pk [0, 1, 2, 3, 4, 5, 6, 7, 8, 9] ?_ ?_⟩
       rotate_left 2
       refine ⟨_, rfl, Weak.pk [0, 1, 2, 3, 4, 5, 6, 7, 8, 9] ?_ ?_⟩
       rotate_left 2
       refine ⟨_, rfl, Weak.pk [0, 1, 2, 3, 4, 5, 6, 7, 8, 9] ?_ ?_⟩
       rotate_left 2
       refine ⟨_, rfl, Weak.pk [0, 1, 2, 3, 4, 5, 6, 7, 8, 9] ?_ ?_⟩
       rotate_left 2
       refine ⟨_, rfl, Weak.pk [0, 1, 2, 3, 4, 5, 6, 7, 8, 9] ?_ ?_⟩
       rotate_left 2
       refine ⟨_, rfl, Weak.pk [0, 1, 2, 3, 4, 5, 6, 7, 8, 9] ?_ ?_⟩
       rotate_left 2
       refine ⟨_, rfl, Weak.pk [0, 1, 2, 3, 4, 5, 6, 7, 8, 9] ?_ ?_⟩
       rotate_left 2
       refine ⟨_, rfl, Weak.pk [0, 1, 2, 3, 4, 5, 6, 7, 8, 9] ?_ ?_⟩
       rotate_left 2
       refine ⟨_, rfl, Weak.pk [0, 1, 2, 3, 4, 5, 6, 7, 8, 9] ?_ ?_⟩
       rotate_left 2
       refine ⟨_, rfl, Weak.pk [0, 1, 2, 3, 4, 5, 6, 7, 8, 9] ?_ ?_⟩
       rotate_left 2
       refine ⟨_, rfl, Weak.pk [0, 1, 2, 3, 4, 5, 6, 7, 8, 9] ?_ ?_⟩
       rotate_left 2
       refine ⟨_, rfl, Weak.pk [0, 1, 2, 3, 4, 5, 6, 7, 8, 9] ?_ ?_⟩
       rotate_left 2
       refine ⟨_, rfl, Weak.pk [0, 1, 2, 3, 4, 5, 6, 7, 8, 9] ?_ ?_⟩
       rotate_left 2
       refine ⟨_, rfl, Weak.pk [0, 1, 2, 3, 4, 5, 6, 7, 8, 9] ?_ ?_⟩
       rotate_left 2
       refine ⟨_, rfl, Weak.pk [0, 1, 2, 3, 4, 5, 6, 7, 8, 9] ?_ ?_⟩
       rotate_left 2
       refine ⟨_, rfl, Weak.pk [0, 1, 2, 3, 4, 5, 6, 7, 8, 9] ?_ ?_⟩
       rotate_left 2
       refine ⟨_, rfl, Weak.pk [0, 1, 2, 3, 4, 5, 6, 7, 8, 9] ?_ ?_⟩
       rotate_left 2
       refine ⟨_, rfl, Weak.pk [0, 1, 2, 3, 4, 5, 6, 7, 8, 9] ?_ ?_⟩
       rotate_left 2
       refine ⟨_, rfl, Weak.pk [0, 1, 2, 3, 4, 5, 6, 7, 8, 9] ?_ ?_⟩
       rotate_left 2
       refine ⟨_, rfl, Weak.pk [0, 1, 2, 3, 4, 5, 6, 7, 8, 9] ?_ ?_⟩
       rotate_left 2
       refine ⟨_, rfl, Weak.pk [0, 1, 2, 3, 4, 5, 6, 7, 8, 9] ?_ ?_⟩
       rotate_left 2
       refine ⟨_, rfl, Weak.pk [0, 1, 2, 3, 4, 5, 6, 7, 8, 9] ?_ ?_⟩
       rotate_left 2
       refine ⟨_, rfl, Weak.pk [0, 1, 2, 3, 4, 5, 6, 7, 8, 9] ?_ ?_⟩
       rotate_left 2
       refine ⟨_, rfl, Weak.pk [0, 1, 2, 3, 4, 5, 6, 7, 8, 9] ?_ ?_⟩
       rotate_left 2
       refine ⟨_, rfl, Weak.pk [0, 1, 2, 3, 4, 5, 6, 7, 8, 9] ?_ ?_⟩
       rotate_left 2
       refine ⟨_, rfl, Weak.pk [0, 1, 2, 3, 4, 5, 6, 7, 8, 9] ?_ ?_⟩
       rotate_left 2
       refine ⟨_, rfl, Weak.pk [0, 1, 2, 3, 4, 5, 6, 7, 8, 9] ?_ ?_⟩
       rotate_left 2
       refine ⟨_, rfl, Weak.pk [0, 1, 2, 3, 4, 5, 6, 7, 8, 9] ?_ ?_⟩
       rotate_left 2
       refine ⟨_, rfl, Weak.pk [0, 1, 2, 3, 4, 5, 6, 7, 8, 9] ?_ ?_⟩
       rotate_left 2
       refine ⟨_, rfl, Weak.pk [0, 1, 2, 3, 4, 5, 6, 7, 8, 9] ?_ ?_⟩
       rotate_left 2
       refine ⟨_, rfl, Weak.pk [0, 1, 2, 3, 4, 5, 6, 7, 8, 9] ?_ ?_⟩
       rotate_left 2
       refine ⟨_, rfl, Weak.pk [0, 1, 2, 3, 4, 5, 6, 7, 8, 9] ?_ ?_⟩
       rotate_left 2
       refine ⟨_, rfl, Weak.pk [0, 1, 2, 3, 4, 5, 6, 7, 8, 9] ?_ ?_⟩
       rotate_left 2
       refine ⟨_, rfl, Weak.pk [0, 1, 2, 3, 4, 5, 6, 7, 8, 9] ?_ ?_⟩
       rotate_left 2
       refine ⟨_, rfl, Weak.pk [0, 1, 2, 3, 4, 5, 6, 7, 8, 9] ?_ ?_⟩
       rotate_left 2
       refine ⟨_, rfl, Weak.pk [0, 1, 2, 3, 4, 5, 6, 7, 8, 9] ?_ ?_⟩
       rotate_left 2
       refine ⟨_, rfl, Weak.pk [0, 1, 2, 3, 4, 5, 6, 7, 8, 9] ?_ ?_⟩
       rotate_left 2
       refine ⟨_, rfl, Weak.pk [0, 1, 2, 3, 4, 5, 6, 7, 8, 9] ?_ ?_⟩
       rotate_left 2
       refine ⟨_, rfl, Weak.pk [0, 1, 2, 3, 4, 5, 6, 7, 8, 9] ?_ ?_⟩
       rotate_left 2
       refine ⟨_, rfl, Weak.pk [0, 1, 2, 3, 4, 5, 6, 7, 8, 9] ?_ ?_⟩
       rotate_left 2
       refine ⟨_, rfl, Weak.pk [0, 1, 2, 3, 4, 5, 6, 7, 8, 9] ?_ ?_⟩
       rotate_left 2
       refine ⟨_, rfl, Weak.pk [0, 1, 2, 3, 4, 5, 6, 7, 8, 9] ?_ ?_⟩
       rotate_left 2
       refine ⟨_, rfl, Weak.pk [0, 1, 2, 3, 4, 5, 6, 7, 8, 9] ?_ ?_⟩
       rotate_left 2
       refine ⟨_, rfl, Weak.pk [0, 1, 2, 3, 4, 5, 6, 7, 8, 9] ?_ ?_⟩
       rotate_left 2
       refine ⟨_, rfl, Weak.pk [0, 1, 2, 3, 4, 5, 6, 7, 8, 9] ?_ ?_⟩
       rotate_left 2
       refine ⟨_, rfl, Weak.pk [0, 1, 2, 3, 4, 5, 6, 7, 8, 9] ?_ ?_⟩
       rotate_left 2
       refine ⟨_, rfl, Weak.pk [0, 1, 2, 3, 4, 5, 6, 7, 8, 9] ?_ ?_⟩
       rotate_left 2
       refine ⟨_, rfl, Weak.pk [0, 1, 2, 3, 4, 5, 6, 7, 8, 9] ?_ ?_⟩
       rotate_left 2
       refine ⟨_, rfl, Weak.pk [0, 1, 2, 3, 4, 5, 6, 7, 8, 9] ?_ ?_⟩
       rotate_left 2
       refine ⟨_, rfl, Weak.pk [0, 1, 2, 3, 4, 5, 6, 7, 8, 9] ?_ ?_⟩
       rotate_left 2
       refine ⟨_, rfl, Weak.pk [0, 1, 2, 3, 4, 5, 6, 7, 8, 9] ?_ ?_⟩
       rotate_left 2
       refine ⟨_, rfl, Weak.pk [0, 1, 2, 3, 4, 5, 6, 7, 8, 9] ?_ ?_⟩
       rotate_left 2
       refine ⟨_, rfl, Weak.pk [0, 1, 2, 3, 4, 5, 6, 7, 8, 9] ?_ ?_⟩
       rotate_left 2
       refine ⟨_, rfl, Weak.pk [0, 1, 2, 3, 4, 5, 6, 7, 8, 9] ?_ ?_⟩
       rotate_left 2
       refine ⟨_, rfl, Weak.pk [0, 1, 2, 3, 4, 5, 6, 7, 8, 9] ?_ ?_⟩
       rotate_left 2
       refine ⟨_, rfl, Weak.pk [0, 1, 2, 3, 4, 5, 6, 7, 8, 9] ?_ ?_⟩
       rotate_left 2
       refine ⟨_, rfl, Weak.pk [0, 1, 2, 3, 4, 5, 6, 7, 8, 9] ?_ ?_⟩
       rotate_left 2
       refine ⟨_, rfl, Weak.pk [0, 1, 2, 3, 4, 5, 6, 7, 8, 9] ?_ ?_⟩
       rotate_left 2
       refine ⟨_, rfl, Weak.pk [0, 1, 2, 3, 4, 5, 6, 7, 8, 9] ?_ ?_⟩
       rotate_left 2
       refine ⟨_, rfl, Weak.pk [0, 1, 2, 3, 4, 5, 6, 7, 8, 9] ?_ ?_⟩
       rotate_left 2
       refine ⟨_, rfl, Weak.pk [0, 1, 2, 3, 4, 5, 6, 7, 8, 9] ?_ ?_⟩
       rotate_left 2
       refine ⟨_, rfl, Weak.pk [0, 1, 2, 3, 4, 5, 6, 7, 8] ?_ ?_⟩
       rotate_left 2
       refine ⟨_, rfl, Weak.pk [0, 1, 2, 3, 4, 5, 6, 7, 8] ?_ ?_⟩
       rotate_left 2
       refine ⟨_, rfl, Weak.pk [0, 1, 2, 3, 4, 5, 6, 7, 8, 9] ?_ ?_⟩
       rotate_left 2
       refine ⟨_, rfl, Weak.pk [0, 1, 2, 3, 4, 5, 6, 7, 8] ?_ ?_⟩
       rotate_left 2
       refine ⟨_, rfl, Weak.pk [0, 1, 2, 3, 4, 5, 6, 7, 8, 9] ?_ ?_⟩
       rotate_left 2
       refine ⟨_, rfl, Weak.pk [0, 1, 2, 3, 4, 5, 6, 7, 8] ?_ ?_⟩
       rotate_left 2
       refine ⟨_, rfl, Weak.pk [0, 1, 2, 3, 4, 5, 6, 7, 8, 9] ?_ ?_⟩
       rotate_left 2
       refine ⟨_, rfl, Weak.pk [0, 1, 2, 3, 4, 5, 6, 7, 8] ?_ ?_⟩
       rotate_left 2
       refine ⟨_, rfl, Weak.pk [0, 1, 2, 3, 4, 5, 6, 7, 8, 9] ?_ ?_⟩
       rotate_left 2
       refine ⟨_, rfl, Weak.pk [0, 1, 2, 3, 4, 5, 6, 7, 8] ?_ ?_⟩
       rotate_left 2
       refine ⟨_, rfl, Weak.pk [0, 1, 2, 3, 4, 5, 6, 7, 8, 9] ?_ ?_⟩
       rotate_left 2
       refine ⟨_, rfl, Weak.pk [0, 1, 2, 3, 4, 5, 6, 7, 8] ?_ ?_⟩
       rotate_left 2
       refine ⟨_, rfl, Weak.pk [0, 1, 2, 3, 4, 5, 6, 7, 8] ?_ ?_⟩
       rotate_left 2
       refine ⟨_, rfl, Weak.pk [0, 1, 2, 3, 4, 5, 6, 7, 8, 9] ?_ ?_⟩
       rotate_left 2
       refine ⟨_, rfl, Weak.pk [0, 1, 2, 3, 4, 5, 6, 7, 8] ?_ ?_⟩
       rotate_left 2
       refine ⟨_, rfl, Weak.pk [0, 1, 2, 3, 4, 5, 6, 7, 8] ?_ ?_⟩
       rotate_left 2
       refine ⟨_, rfl, Weak.pk [0, 1, 2, 3, 4, 5, 6, 7, 8, 9] ?_ ?_⟩
       rotate_left 2
       refine ⟨_, rfl, Weak.pk [0, 1, 2, 3, 4, 5, 6, 7, 8] ?_ ?_⟩
       rotate_left 2
       refine ⟨_, rfl, Weak.pk [0, 1, 2, 3, 4, 5, 6, 7, 8, 9] ?_ ?_⟩
       rotate_left 2
       refine ⟨_, rfl, Weak.pk [0, 1, 2, 3, 4, 5, 6, 7, 8] ?_ ?_⟩
       rotate_left 2
       refine ⟨_, rfl, Weak.pk [0, 1, 2, 3, 4, 5, 6, 7, 8] ?_ ?_⟩
       rotate_left 2
       refine ⟨_, rfl, Weak.pk [0, 1, 2, 3, 4, 5, 6, 7, 8, 9] ?_ ?_⟩
       rotate_left 2
       refine ⟨_, rfl, Weak.pk [0, 1, 2, 3, 4, 5, 6, 7, 8] ?_ ?_⟩
       rotate_left 2
       refine ⟨_, rfl, Weak.pk [0, 1, 2, 3, 4, 5, 6, 7, 8] ?_ ?_⟩
       rotate_left 2
       refine ⟨_, rfl, Weak.pk [0, 1, 2, 3, 4, 5, 6, 7, 8, 9] ?_ ?_⟩
       rotate_left 2
       refine ⟨_, rfl, Weak.pk [0, 1, 2, 3, 4, 5, 6, 7, 8] ?_ ?_⟩
       rotate_left 2
       refine ⟨_, rfl, Weak.pk [0, 1, 2, 3, 4, 5, 6, 7, 8] ?_ ?_⟩
       rotate_left 2
       refine ⟨_, rfl, Weak.pk [0, 1, 2, 3, 4, 5, 6, 7, 8, 9] ?_ ?_⟩
       rotate_left 2
       refine ⟨_, rfl, Weak.pk [0, 1, 2, 3, 4, 5, 6, 7, 8] ?_ ?_⟩
       rotate_left 2
       refine ⟨_, rfl, Weak.pk [0, 1, 2, 3, 4, 5, 6, 7, 8] ?_ ?_⟩
       rotate_left 2
       refine ⟨_, rfl, Weak.pk [0, 1, 2, 3, 4, 5, 6, 7, 8] ?_ ?_⟩
       rotate_left 2
       refine ⟨_, rfl, Weak.pk [0, 1, 2, 3, 4, 5, 6, 7, 8, 9] ?_ ?_⟩
       rotate_left 2
       refine ⟨_, rfl, Weak.pk [0, 1, 2, 3, 4, 5, 6, 7, 8] ?_ ?_⟩
       rotate_left 2
       refine ⟨_, rfl, Weak.pk [0, 1, 2, 3, 4, 5, 6, 7, 8] ?_ ?_⟩
       rotate_left 2
       refine ⟨_, rfl, Weak.pk [0, 1, 2, 3, 4, 5, 6, 7, 8] ?_ ?_⟩
       rotate_left 2
       refine ⟨_, rfl, Weak.pk [0, 1, 2, 3, 4, 5, 6, 7, 8, 9] ?_ ?_⟩
       rotate_left 2
       refine ⟨_, rfl, Weak.pk [0, 1, 2, 3, 4, 5, 6, 7, 8] ?_ ?_⟩
       rotate_left 2
       refine ⟨_, rfl, Weak.pk [0, 1, 2, 3, 4, 5, 6, 7, 8, 9] ?_ ?_⟩
       rotate_left 2
       refine ⟨_, rfl, Weak.pk [0, 1, 2, 3, 4, 5, 6, 7, 8] ?_ ?_⟩
       rotate_left 2
       refine ⟨_, rfl, Weak.pk [0, 1, 2, 3, 4, 5, 6, 7, 8] ?_ ?_⟩
       rotate_left 2
       refine ⟨_, rfl, Weak.pk [0, 1, 2, 3, 4, 5, 6, 7, 8, 9] ?_ ?_⟩
       rotate_left 2
       refine ⟨_, rfl, Weak.pk [0, 1, 2, 3, 4, 5, 6, 7, 8] ?_ ?_⟩
       rotate_left 2
       refine ⟨_, rfl, Weak.pk [0, 1, 2, 3, 4, 5, 6, 7, 8] ?_ ?_⟩
       rotate_left 2
       refine ⟨_, rfl, Weak.pk [0, 1, 2, 3, 4, 5, 6, 7, 8, 9] ?_ ?_⟩
       rotate_left 2
       refine ⟨_, rfl, Weak.pk [0, 1, 2, 3, 4, 5, 6, 7, 8] ?_ ?_⟩
       rotate_left 2
       refine ⟨_, rfl, Weak.pk [0, 1, 2, 3, 4, 5, 6, 7, 8] ?_ ?_⟩
       rotate_left 2
       refine ⟨_, rfl, Weak.pk [0, 1, 2, 3, 4, 5, 6, 7, 8, 9] ?_ ?_⟩
       rotate_left 2
       refine ⟨_, rfl, Weak.pk [0, 1, 2, 3, 4, 5, 6, 7, 8] ?_ ?_⟩
       rotate_left 2
       refine ⟨_, rfl, Weak.pk [0, 1, 2, 3, 4, 5, 6, 7, 8] ?_ ?_⟩
       rotate_left 2
       refine ⟨_, rfl, Weak.pk [0, 1, 2, 3, 4, 5, 6, 7, 8] ?_ ?_⟩
       rotate_left 2
       refine ⟨_, rfl, Weak.pk [0, 1, 2, 3, 4, 5, 6, 7, 8, 9] ?_ ?_⟩
       rotate_left 2
       refine ⟨_, rfl, Weak.pk [0, 1, 2, 3, 4, 5, 6, 7, 8] ?_ ?_⟩
       rotate_left 2
       refine ⟨_, rfl, Weak.pk [0, 1, 2, 3, 4, 5, 6, 7, 8] ?_ ?_⟩
       rotate_left 2
       refine ⟨_, rfl, Weak.pk [0, 1, 2, 3, 4, 5, 6, 7, 8] ?_ ?_⟩
       rotate_left 2
       refine ⟨_, rfl, Weak.pk [0, 1, 2, 3, 4, 5, 6, 7, 8, 9] ?_ ?_⟩
       rotate_left 2
       refine ⟨_, rfl, Weak.pk [0, 1, 2, 3, 4, 5, 6, 7, 8] ?_ ?_⟩
       rotate_left 2
       refine ⟨_, rfl, Weak.pk [0, 1, 2, 3, 4, 5, 6, 7, 8] ?_ ?_⟩
       rotate_left 2
       refine ⟨_, rfl, Weak.pk [0, 1, 2, 3, 4, 5, 6, 7, 8, 9] ?_ ?_⟩
       rotate_left 2
       refine ⟨_, rfl, Weak.pk [0, 1, 2, 3, 4, 5, 6, 7, 8] ?_ ?_⟩
       rotate_left 2
       refine ⟨_, rfl, Weak.pk [0, 1, 2, 3, 4, 5, 6, 7, 8] ?_ ?_⟩
       rotate_left 2
       refine ⟨_, rfl, Weak.pk [0, 1, 2, 3, 4, 5, 6, 7, 8] ?_ ?_⟩
       rotate_left 2
       refine ⟨_, rfl, Weak.pk [0, 1, 2, 3, 4, 5, 6, 7, 8, 9] ?_ ?_⟩
       rotate_left 2
       refine ⟨_, rfl, Weak.pk [0, 1, 2, 3, 4, 5, 6, 7, 8] ?_ ?_⟩
       rotate_left 2
       refine ⟨_, rfl, Weak.pk [0, 1, 2, 3, 4, 5, 6, 7, 8] ?_ ?_⟩
       rotate_left 2
       refine ⟨_, rfl, Weak.pk [0, 1, 2, 3, 4, 5, 6, 7, 8] ?_ ?_⟩
       rotate_left 2
       refine ⟨_, rfl, Weak.pk [0, 1, 2, 3, 4, 5, 6, 7, 8, 9] ?_ ?_⟩
       rotate_left 2
       refine ⟨_, rfl, Weak.pk [0, 1, 2, 3, 4, 5, 6, 7, 8] ?_ ?_⟩
       rotate_left 2
       refine ⟨_, rfl, Weak.pk [0, 1, 2, 3, 4, 5, 6, 7, 8] ?_ ?_⟩
       rotate_left 2
       refine ⟨_, rfl, Weak.pk [0, 1, 2, 3, 4, 5, 6, 7, 8] ?_ ?_⟩
       rotate_left 2
       refine ⟨_, rfl, Weak.pk [0, 1, 2, 3, 4, 5, 6, 7, 8, 9] ?_ ?_⟩
       rotate_left 2
       refine ⟨_, rfl, Weak.pk [0, 1, 2, 3, 4, 5, 6, 7, 8] ?_ ?_⟩
       rotate_left 2
       refine ⟨_, rfl, Weak.pk [0, 1, 2, 3, 4, 5, 6, 7, 8] ?_ ?_⟩
       rotate_left 2
       refine ⟨_, rfl, Weak.pk [0, 1, 2, 3, 4, 5, 6, 7, 8] ?_ ?_⟩
       rotate_left 2
       refine ⟨_, rfl, Weak.pk [0, 1, 2, 3, 4, 5, 6, 7, 8] ?_ ?_⟩
       rotate_left 2
       refine ⟨_, rfl, Weak.pk [0, 1, 2, 3, 4, 5, 6, 7, 8, 9] ?_ ?_⟩
       rotate_left 2
       refine ⟨_, rfl, Weak.pk [0, 1, 2, 3, 4, 5, 6, 7, 8] ?_ ?_⟩
       rotate_left 2
       refine ⟨_, rfl, Weak.pk [0, 1, 2, 3, 4, 5, 6, 7, 8] ?_ ?_⟩
       rotate_left 2
       refine ⟨_, rfl, Weak.pk [0, 1, 2, 3, 4, 5, 6, 7, 8] ?_ ?_⟩
       rotate_left 2
       refine ⟨_, rfl, Weak.pk [0, 1, 2, 3, 4, 5, 6, 7, 8] ?_ ?_⟩
       rotate_left 2
       refine ⟨_, rfl, Weak.pk [0, 1, 2, 3, 4, 5, 6, 7, 8, 9] ?_ ?_⟩
       rotate_left 2
       refine ⟨_, rfl, Weak.pk [0, 1, 2, 3, 4, 5, 6, 7, 8] ?_ ?_⟩
       rotate_left 2
       refine ⟨_, rfl, Weak.pk [0, 1, 2, 3, 4, 5, 6, 7, 8, 9] ?_ ?_⟩
       rotate_left 2
       refine ⟨_, rfl, Weak.pk [0, 1, 2, 3, 4, 5, 6, 7, 8] ?_ ?_⟩
       rotate_left 2
       refine ⟨_, rfl, Weak.pk [0, 1, 2, 3, 4, 5, 6, 7, 8] ?_ ?_⟩
       rotate_left 2
       refine ⟨_, rfl, Weak.pk [0, 1, 2, 3, 4, 5, 6, 7, 8, 9] ?_ ?_⟩
       rotate_left 2
       refine ⟨_, rfl, Weak.pk [0, 1, 2, 3, 4, 5, 6, 7, 8] ?_ ?_⟩
       rotate_left 2
       refine ⟨_, rfl, Weak.pk [0, 1, 2, 3, 4, 5, 6, 7, 8] ?_ ?_⟩
       rotate_left 2
       refine ⟨_, rfl, Weak.pk [0, 1, 2, 3, 4, 5, 6, 7, 8, 9] ?_ ?_⟩
       rotate_left 2
       refine ⟨_, rfl, Weak.pk [0, 1, 2, 3, 4, 5, 6, 7, 8] ?_ ?_⟩
       rotate_left 2
       refine ⟨_, rfl, Weak.pk [0, 1, 2, 3, 4, 5, 6, 7, 8] ?_ ?_⟩
       rotate_left 2
       refine ⟨_, rfl, Weak.pk [0, 1, 2, 3, 4, 5, 6, 7, 8, 9] ?_ ?_⟩
       rotate_left 2
       refine ⟨_, rfl, Weak.pk [0, 1, 2, 3, 4, 5, 6, 7, 8] ?_ ?_⟩
       rotate_left 2
       refine ⟨_, rfl, Weak.pk [0, 1, 2, 3, 4, 5, 6, 7, 8] ?_ ?_⟩
       rotate_left 2
       refine ⟨_, rfl, Weak.pk [0, 1, 2, 3, 4, 5, 6, 7, 8] ?_ ?_⟩
       rotate_left 2
       refine ⟨_, rfl, Weak.pk [0, 1, 2, 3, 4, 5, 6, 7, 8, 9] ?_ ?_⟩
       rotate_left 2
       refine ⟨_, rfl, Weak.pk [0, 1, 2, 3, 4, 5, 6, 7, 8] ?_ ?_⟩
       rotate_left 2
       refine ⟨_, rfl, Weak.pk [0, 1, 2, 3, 4, 5, 6, 7, 8] ?_ ?_⟩
       rotate_left 2
       refine ⟨_, rfl, Weak.pk [0, 1, 2, 3, 4, 5, 6, 7, 8] ?_ ?_⟩
       rotate_left 2
       refine ⟨_, rfl, Weak.pk [0, 1, 2, 3, 4, 5, 6, 7, 8, 9] ?_ ?_⟩
       rotate_left 2
       refine ⟨_, rfl, Weak.pk [0, 1, 2, 3, 4, 5, 6, 7, 8] ?_ ?_⟩
       rotate_left 2
       refine ⟨_, rfl, Weak.pk [0, 1, 2, 3, 4, 5, 6, 7, 8] ?_ ?_⟩
       rotate_left 2
       refine ⟨_, rfl, Weak.pk [0, 1, 2, 3, 4, 5, 6, 7, 8, 9] ?_ ?_⟩
       rotate_left 2
       refine ⟨_, rfl, Weak.pk [0, 1, 2, 3, 4, 5, 6, 7, 8] ?_ ?_⟩
       rotate_left 2
       refine ⟨_, rfl, Weak.pk [0, 1, 2, 3, 4, 5, 6, 7, 8] ?_ ?_⟩
       rotate_left 2
       refine ⟨_, rfl, Weak.pk [0, 1, 2, 3, 4, 5, 6, 7, 8] ?_ ?_⟩
       rotate_left 2
       refine ⟨_, rfl, Weak.pk [0, 1, 2, 3, 4, 5, 6, 7, 8, 9] ?_ ?_⟩
       rotate_left 2
       refine ⟨_, rfl, Weak.pk [0, 1, 2, 3, 4, 5, 6, 7, 8] ?_ ?_⟩
       rotate_left 2
       refine ⟨_, rfl, Weak.pk [0, 1, 2, 3, 4, 5, 6, 7, 8] ?_ ?_⟩
       rotate_left 2
       refine ⟨_, rfl, Weak.pk [0, 1, 2, 3, 4, 5, 6, 7, 8] ?_ ?_⟩
       rotate_left 2
       refine ⟨_, rfl, Weak.pk [0, 1, 2, 3, 4, 5, 6, 7, 8, 9] ?_ ?_⟩
       rotate_left 2
       refine ⟨_, rfl, Weak.pk [0, 1, 2, 3, 4, 5, 6, 7, 8] ?_ ?_⟩
       rotate_left 2
       refine ⟨_, rfl, Weak.pk [0, 1, 2, 3, 4, 5, 6, 7, 8] ?_ ?_⟩
       rotate_left 2
       refine ⟨_, rfl, Weak.pk [0, 1, 2, 3, 4, 5, 6, 7, 8] ?_ ?_⟩
       rotate_left 2
       refine ⟨_, rfl, Weak.pk [0, 1, 2, 3, 4, 5, 6, 7, 8, 9] ?_ ?_⟩
       rotate_left 2
       refine ⟨_, rfl, Weak.pk [0, 1, 2, 3, 4, 5, 6, 7, 8] ?_ ?_⟩
       rotate_left 2
       refine ⟨_, rfl, Weak.pk [0, 1, 2, 3, 4, 5, 6, 7, 8] ?_ ?_⟩
       rotate_left 2
       refine ⟨_, rfl, Weak.pk [0, 1, 2, 3, 4, 5, 6, 7, 8] ?_ ?_⟩
       rotate_left 2
       refine ⟨_, rfl, Weak.pk [0, 1, 2, 3, 4, 5, 6, 7, 8] ?_ ?_⟩
       rotate_left 2
       refine ⟨_, rfl, Weak.pk [0, 1, 2, 3, 4, 5, 6, 7, 8, 9] ?_ ?_⟩
       rotate_left 2
       refine ⟨_, rfl, Weak.pk [0, 1, 2, 3, 4, 5, 6, 7, 8] ?_ ?_⟩
       rotate_left 2
       refine ⟨_, rfl, Weak.pk [0, 1, 2, 3, 4, 5, 6, 7, 8] ?_ ?_⟩
       rotate_left 2
       refine ⟨_, rfl, Weak.pk [0, 1, 2, 3, 4, 5, 6, 7, 8] ?_ ?_⟩
       rotate_left 2
       refine ⟨_, rfl, Weak.pk [0, 1, 2, 3, 4, 5, 6, 7, 8] ?_ ?_⟩
       rotate_left 2
       refine ⟨_, rfl, Weak.pk [0, 1, 2, 3, 4, 5, 6, 7, 8, 9] ?_ ?_⟩
       rotate_left 2
       refine ⟨_, rfl, Weak.pk [0, 1, 2, 3, 4, 5, 6, 7, 8] ?_ ?_⟩
       rotate_left 2
       refine ⟨_, rfl, Weak.pk [0, 1, 2, 3, 4, 5, 6, 7, 8] ?_ ?_⟩
       rotate_left 2
       refine ⟨_, rfl, Weak.pk [0, 1, 2, 3, 4, 5, 6, 7, 8, 9] ?_ ?_⟩
       rotate_left 2
       refine ⟨_, rfl, Weak.pk [0, 1, 2, 3, 4, 5, 6, 7, 8] ?_ ?_⟩
       rotate_left 2
       refine ⟨_, rfl, Weak.pk [0, 1, 2, 3, 4, 5, 6, 7, 8] ?_ ?_⟩
       rotate_left 2
       refine ⟨_, rfl, Weak.pk [0, 1, 2, 3, 4, 5, 6, 7, 8] ?_ ?_⟩
       rotate_left 2
       refine ⟨_, rfl, Weak.pk [0, 1, 2, 3, 4, 5, 6, 7, 8, 9] ?_ ?_⟩
       rotate_left 2
       refine ⟨_, rfl, Weak.pk [0, 1, 2, 3, 4, 5, 6, 7, 8] ?_ ?_⟩
       rotate_left 2
       refine ⟨_, rfl, Weak.pk [0, 1, 2, 3, 4, 5, 6, 7, 8] ?_ ?_⟩
       rotate_left 2
       refine ⟨_, rfl, Weak.pk [0, 1, 2, 3, 4, 5, 6, 7, 8] ?_ ?_⟩
       rotate_left 2
       refine ⟨_, rfl, Weak.pk [0, 1, 2, 3, 4, 5, 6, 7, 8, 9] ?_ ?_⟩
       rotate_left 2
       refine ⟨_, rfl, Weak.pk [0, 1, 2, 3, 4, 5, 6, 7, 8] ?_ ?_⟩
       rotate_left 2
       refine ⟨_, rfl, Weak.pk [0, 1, 2, 3, 4, 5, 6, 7, 8] ?_ ?_⟩
       rotate_left 2
       refine ⟨_, rfl, Weak.pk [0, 1, 2, 3, 4, 5, 6, 7, 8] ?_ ?_⟩
       rotate_left 2
       refine ⟨_, rfl, Weak.pk [0, 1, 2, 3, 4, 5, 6, 7, 8, 9] ?_ ?_⟩
       rotate_left 2
       refine ⟨_, rfl, Weak.pk [0, 1, 2, 3, 4, 5, 6, 7, 8] ?_ ?_⟩
       rotate_left 2
       refine ⟨_, rfl, Weak.pk [0, 1, 2, 3, 4, 5, 6, 7, 8] ?_ ?_⟩
       rotate_left 2
       refine ⟨_, rfl, Weak.pk [0, 1, 2, 3, 4, 5, 6, 7, 8] ?_ ?_⟩
       rotate_left 2
       refine ⟨_, rfl, Weak.pk [0, 1, 2, 3, 4, 5, 6, 7, 8] ?_ ?_⟩
       rotate_left 2
       refine ⟨_, rfl, Weak.pk [0, 1, 2, 3, 4, 5, 6, 7, 8, 9] ?_ ?_⟩
       rotate_left 2
       refine ⟨_, rfl, Weak.pk [0, 1, 2, 3, 4, 5, 6, 7, 8] ?_ ?_⟩
       rotate_left 2
       refine ⟨_, rfl, Weak.pk [0, 1, 2, 3, 4, 5, 6, 7, 8] ?_ ?_⟩
       rotate_left 2
       refine ⟨_, rfl, Weak.pk [0, 1, 2, 3, 4, 5, 6, 7, 8] ?_ ?_⟩
       rotate_left 2
       refine ⟨_, rfl, Weak.pk [0, 1, 2, 3, 4, 5, 6, 7, 8] ?_ ?_⟩
       rotate_left 2
       refine ⟨_, rfl, Weak.pk [0, 1, 2, 3, 4, 5, 6, 7, 8, 9] ?_ ?_⟩
       rotate_left 2
       refine ⟨_, rfl, Weak.pk [0, 1, 2, 3, 4, 5, 6, 7, 8] ?_ ?_⟩
       rotate_left 2
       refine ⟨_, rfl, Weak.pk [0, 1, 2, 3, 4, 5, 6, 7, 8] ?_ ?_⟩
       rotate_left 2
       refine ⟨_, rfl, Weak.pk [0, 1, 2, 3, 4, 5, 6, 7, 8] ?_ ?_⟩
       rotate_left 2
       refine ⟨_, rfl, Weak.pk [0, 1, 2, 3, 4, 5, 6, 7, 8, 9] ?_ ?_⟩
       rotate_left 2
       refine ⟨_, rfl, Weak.pk [0, 1, 2, 3, 4, 5, 6, 7, 8] ?_ ?_⟩
       rotate_left 2
       refine ⟨_, rfl, Weak.pk [0, 1, 2, 3, 4, 5, 6, 7, 8] ?_ ?_⟩
       rotate_left 2
       refine ⟨_, rfl, Weak.pk [0, 1, 2, 3, 4, 5, 6, 7, 8] ?_ ?_⟩
       rotate_left 2
       refine ⟨_, rfl, Weak.pk [0, 1, 2, 3, 4, 5, 6, 7, 8] ?_ ?_⟩
       rotate_left 2
       refine ⟨_, rfl, Weak.pk [0, 1, 2, 3, 4, 5, 6, 7, 8, 9] ?_ ?_⟩
       rotate_left 2
       refine ⟨_, rfl, Weak.pk [0, 1, 2, 3, 4, 5, 6, 7, 8] ?_ ?_⟩
       rotate_left 2
       refine ⟨_, rfl, Weak.pk [0, 1, 2, 3, 4, 5, 6, 7, 8] ?_ ?_⟩
       rotate_left 2
       refine ⟨_, rfl, Weak.pk [0, 1, 2, 3, 4, 5, 6, 7, 8] ?_ ?_⟩
       rotate_left 2
       refine ⟨_, rfl, Weak.pk [0, 1, 2, 3, 4, 5, 6, 7, 8] ?_ ?_⟩
       rotate_left 2
       refine ⟨_, rfl, Weak.pk [0, 1, 2, 3, 4, 5, 6, 7, 8, 9] ?_ ?_⟩
       rotate_left 2
       refine ⟨_, rfl, Weak.pk [0, 1, 2, 3, 4, 5, 6, 7, 8] ?_ ?_⟩
       rotate_left 2
       refine ⟨_, rfl, Weak.pk [0, 1, 2, 3, 4, 5, 6, 7, 8] ?_ ?_⟩
       rotate_left 2
       refine ⟨_, rfl, Weak.pk [0, 1, 2, 3, 4, 5, 6, 7, 8] ?_ ?_⟩
       rotate_left 2
       refine ⟨_, rfl, Weak.pk [0, 1, 2, 3, 4, 5, 6, 7, 8] ?_ ?_⟩
       rotate_left 2
       refine ⟨_, rfl, Weak.pk [0, 1, 2, 3, 4, 5, 6, 7, 8, 9] ?_ ?_⟩
       rotate_left 2
       refine ⟨_, rfl, Weak.pk [0, 1, 2, 3, 4, 5, 6, 7, 8] ?_ ?_⟩
       rotate_left 2
       refine ⟨_, rfl, Weak.pk [0, 1, 2, 3, 4, 5, 6, 7, 8] ?_ ?_⟩
       rotate_left 2
       refine ⟨_, rfl, Weak.pk [0, 1, 2, 3, 4, 5, 6, 7, 8] ?_ ?_⟩
       rotate_left 2
       refine ⟨_, rfl, Weak.pk [0, 1, 2, 3, 4, 5, 6, 7, 8] ?_ ?_⟩
       rotate_left 2
       refine ⟨_, rfl, Weak.pk [0, 1, 2, 3, 4, 5, 6, 7, 8] ?_ ?_⟩
       rotate_left 2
       refine ⟨_, rfl, Weak.pk [0, 1, 2, 3, 4, 5, 6, 7, 8, 9] ?_ ?_⟩
       rotate_left 2
       refine ⟨_, rfl, Weak.pk [0, 1, 2, 3, 4, 5, 6, 7, 8] ?_ ?_⟩
       rotate_left 2
       refine ⟨_, rfl, Weak.pk [0, 1, 2, 3, 4, 5, 6, 7, 8] ?_ ?_⟩
       rotate_left 2
       refine ⟨_, rfl, Weak.pk [0, 1, 2, 3, 4, 5, 6, 7, 8] ?_ ?_⟩
       rotate_left 2
       refine ⟨_, rfl, Weak.pk [0, 1, 2, 3, 4, 5, 6, 7, 8] ?_ ?_⟩
       rotate_left 2
       refine ⟨_, rfl, Weak.pk [0, 1, 2, 3, 4, 5, 6, 7, 8] ?_ ?_⟩
       rotate_left 2
       refine ⟨_, rfl, Weak.pk [0, 1, 2, 3, 4, 5, 6, 7, 8, 9] ?_ ?_⟩
       rotate_left 2
       refine ⟨_, rfl, Weak.pk [0, 1, 2, 3, 4, 5, 6, 7, 8] ?_ ?_⟩
       rotate_left 2
       refine ⟨_, rfl, Weak.pk [0, 1, 2, 3, 4, 5, 6, 7, 8] ?_ ?_⟩
       rotate_left 2
       refine ⟨_, rfl, Weak.pk [0, 1, 2, 3, 4, 5, 6, 7, 8] ?_ ?_⟩
       rotate_left 2
       refine ⟨_, rfl, Weak.pk [0, 1, 2, 3, 4, 5, 6, 7, 8] ?_ ?_⟩
       rotate_left 2
       refine ⟨_, rfl, Weak.pk [0, 1, 2, 3, 4, 5, 6, 7, 8] ?_ ?_⟩
       rotate_left 2
       refine ⟨_, rfl, Weak.pk [0, 1, 2, 3, 4, 5, 6, 7, 8] ?_ ?_⟩
       rotate_left 2
       all_goals (first | rfl | (simp [LeG, LeC, LeV, ren, pickF, posOf]; done) | (simp [pickH, pickB, pickF, posOf, Cur.ren, ren, map_ren_rows, rows, IntS.cs]; done) | (simp [pickH, pickB, pickF, posOf, Cur.ren, ren, map_ren_rows]; done) | (simp [pickH, pickB, pickF, posOf, Cur.ren, ren, map_ren_rows] <;> rfl))
     · (repeat ((repeat1' (first | simp -implicitDefEqProofs -dsimp only [go_sem, h3, Cur.ren] | simp -dsimp (disch := omega) only [wrap_i64])); repeat (with_reducible refine sideA ?_)))
       refine among_call hB hc5 (by omega) [0, 60, 100, 250, 400, 900] (by simp) (by simp) rfl rfl rfl (fun vc6 c6 pvc6 hc6 => ?_)
       (repeat ((repeat1' (first | simp -implicitDefEqProofs -dsimp only [go_sem, Cur.ren, map_ren_rows] | simp -dsimp (disch := omega) only [wrap_i64])); repeat (with_reducible refine sideA ?_)))
       refine among_call hB hc6 (by omega) [0, 80, 200, 500] (by simp) (by simp) rfl rfl rfl (fun vc7 c7 pvc7 hc7 => ?_)
       (repeat ((repeat1' (first | simp -implicitDefEqProofs -dsimp only [go_sem, Cur.ren, map_ren_rows] | simp -dsimp (disch := omega) only [wrap_i64])); repeat (with_reducible refine sideA ?_)))
       refine among_call hB hc7 (by omega) [0, 1, 20, 200, 1000] (by simp) (by simp) rfl rfl rfl (fun vc8 c8 pvc8 hc8 => ?_)
       (repeat ((repeat1' (first | simp -implicitDefEqProofs -dsimp only [go_sem, Cur.ren, map_ren_rows] | simp -dsimp (disch := omega) only [wrap_i64])); repeat (with_reducible refine sideA ?_)))
       obtain ⟨m, hme⟩ : ∃ m, m = max 0 o1.Tick := ⟨_, rfl⟩
       have hm : 0 ≤ m ∧ m ≤ 1000001 := by have := ho1.2.2; omega
       have pm := l1Most_ok 0 o1.Tick
       rw [← hme] at pm
       have bx := memB (a := 0) (b := 900) pvc6 (by decide)
       have by' := memB (a := 0) (b := 500) pvc7 (by decide)
       have psq := l10SquareG_ok vc6 vc7 o1.X o1.Y (by omega) (by omega) ho1.1 (by have := ho1.2.1; omega)
       have hq := sqG_bd (x := vc6) (y := vc7) (u := o1.X) (v := o1.Y) (by omega) (by omega) ho1.1 (by have := ho1.2.1; omega)
       generalize sqG vc6 vc7 o1.X o1.Y = q at psq hq
       have prt := l10Root_ok q hq.1 hq.2
       have hrb := isq_bd hq
       obtain ⟨rt, hrt⟩ : ∃ rt : Int, rt = isq q.toNat := ⟨_, rfl⟩
       rw [← hrt] at prt hrb
       have p9 := among_ok hB (c := c8) ⟨hc8.1, by have := hc8.2; omega⟩ [0, 0, 1, 15, -30] (by simp) (by simp)
       have hc9 := pickC_le (B := B) (n := (([0, 0, 1, 15, -30] : List Int).length : Int)) hc8
       have pvc9 := amongV_mem hB (K := [0, 0, 1, 15, -30]) (by simp) hc8.1
       generalize amongV B [0, 0, 1, 15, -30] c8 = vc9 at p9 pvc9
       generalize pickC B (([0, 0, 1, 15, -30] : List Int).length : Int) c8 = c9 at p9 hc9
       have hsn : rows Arrival.cs S ++ [.int .i64 (9 * (n : Int)), .int .i64 vc6, .int .i64 vc7, .int .i64 (max 0 (min 1000000 (m + rt + vc9))), .int .i64 vc8] = rows Arrival.cs (S ++ [⟨9 * (n : Int), vc6, vc7, max 0 (min 1000000 (m + rt + vc9)), vc8⟩]) := rows_snoc (cs := Arrival.cs) S ⟨9 * (n : Int), vc6, vc7, max 0 (min 1000000 (m + rt + vc9)), vc8⟩
       have b9 := memB (a := -30) (b := 15) pvc9 (by decide)
       refine clT.graph [(1048575, []), (524287, [19]), (262143, [18]), (131071, [17]), (65535, [16]), (57343, [13]), (53247, [12]), (51199, [11]), (51195, [2]), (51193, [1]), (51183, [4]), (51179, [2, 4]), (51177, [1, 4]), (51135, [6]), (51131, [2, 6]), (51129, [1, 6]), (51119, [4, 6]), (51115, [2, 4, 6]), (51113, [1, 4, 6]), (50943, [8]), (50939, [2, 8]), (50937, [1, 8]), (50927, [4, 8]), (50923, [2, 4, 8]), (50921, [1, 4, 8]), (50879, [6, 8]), (50875, [2, 6, 8]), (50873, [1, 6, 8]), (50863, [4, 6, 8]), (50859, [2, 4, 6, 8]), (50857, [1, 4, 6, 8]), (50175, [10]), (50171, [2, 10]), (50169, [1, 10]), (50159, [4, 10]), (50155, [2, 4, 10]), (50153, [1, 4, 10]), (50111, [6, 10]), (50107, [2, 6, 10]), (50105, [1, 6, 10]), (50095, [4, 6, 10]), (50091, [2, 4, 6, 10]), (50089, [1, 4, 6, 10]), (49919, [8, 10]), (49915, [2, 8, 10]), (49913, [1, 8, 10]), (49903, [4, 8, 10]), (49899, [2, 4, 8, 10]), (49897, [1, 4, 8, 10]), (49855, [6, 8, 10]), (49851, [2, 6, 8, 10]), (49849, [1, 6, 8, 10]), (49839, [4, 6, 8, 10]), (49835, [2, 4, 6, 8, 10]), (49833, [1, 4, 6, 8, 10]), (32767, [15]), (24575, [13]), (20479, [12, 15]), (18431, [11, 15]), (18427, [2, 15]), (18425, [1, 15]), (18415, [4, 15]), (18411, [2, 4, 15]), (18409, [1, 4, 15]), (18367, [6, 15]), (18363, [2, 6, 15]), (18361, [1, 6, 15]), (18351, [4, 6, 15]), (18347, [2, 4, 6, 15]), (18345, [1, 4, 6, 15]), (18175, [8, 15]), (18171, [2, 8, 15]), (18169, [1, 8, 15]), (18159, [4, 8, 15]), (18155, [2, 4, 8, 15]), (18153, [1, 4, 8, 15]), (18111, [6, 8, 15]), (18107, [2, 6, 8, 15]), (18105, [1, 6, 8, 15]), (18095, [4, 6, 8, 15]), (18091, [2, 4, 6, 8, 15]), (18089, [1, 4, 6, 8, 15]), (17407, [10, 15]), (17403, [2, 10, 15]), (17401, [1, 10, 15]), (17391, [4, 10, 15]), (17387, [2, 4, 10, 15]), (17385, [1, 4, 10, 15]), (17343, [6, 10, 15]), (17339, [2, 6, 10, 15]), (17337, [1, 6, 10, 15]), (17327, [4, 6, 10, 15]), (17323, [2, 4, 6, 10, 15]), (17321, [1, 4, 6, 10, 15]), (17151, [8, 10, 15]), (17147, [2, 8, 10, 15]), (17145, [1, 8, 10, 15]), (17135, [4, 8, 10, 15]), (17131, [2, 4, 8, 10, 15]), (17129, [1, 4, 8, 10, 15]), (17087, [6, 8, 10, 15]), (17083, [2, 6, 8, 10, 15]), (17081, [1, 6, 8, 10, 15]), (17071, [4, 6, 8, 10, 15]), (17067, [2, 4, 6, 8, 10, 15]), (17065, [1, 4, 6, 8, 10, 15]), (681, [14]), (169, [9]), (41, [7]), (9, [5]), (1, [3]), (0, [0])] (gA _ (tabR B S o1 o2 o1 c8 c9 n (9 * (n : Int)) vc6 vc7 vc8 vc9 m q rt)) (by kernel_rfl) rfl ?_
       refine ⟨fun s hs => ?_, fun s hs => ?_, fun s hs => ?_, fun s hs => ?_, fun s hs => ?_, fun s hs => ?_, fun s hs => ?_, fun s hs => ?_, fun s hs => ?_, fun s hs => ?_, fun s hs => ?_, fun s hs => ?_, fun s hs => ?_, fun s hs => ?_, fun s hs => ?_, fun s hs => ?_, fun s hs => ?_, fun s hs => ?_, fun s hs => ?_, fun s hs => ?_, fun s hs => ?_, fun s hs => ?_, fun s hs => ?_, fun s hs => ?_, fun s hs => ?_, fun s hs => ?_, fun s hs => ?_, fun s hs => ?_, fun s hs => ?_, fun s hs => ?_, fun s hs => ?_, fun s hs => ?_, fun s hs => ?_, fun s hs => ?_, fun s hs => ?_, fun s hs => ?_, fun s hs => ?_, fun s hs => ?_, fun s hs => ?_, fun s hs => ?_, fun s hs => ?_, fun s hs => ?_, fun s hs => ?_, fun s hs => ?_, fun s hs => ?_, fun s hs => ?_, fun s hs => ?_, fun s hs => ?_, fun s hs => ?_, fun s hs => ?_, fun s hs => ?_, fun s hs => ?_, fun s hs => ?_, fun s hs => ?_, fun s hs => ?_, fun s hs => ?_, fun s hs => ?_, fun s hs => ?_, fun s hs => ?_, fun s hs => ?_, fun s hs => ?_, fun s hs => ?_, fun s hs => ?_, fun s hs => ?_, fun s hs => ?_, fun s hs => ?_, fun s hs => ?_, fun s hs => ?_, fun s hs => ?_, fun s hs => ?_, fun s hs => ?_, fun s hs => ?_, fun s hs => ?_, fun s hs => ?_, fun s hs => ?_, fun s hs => ?_, fun s hs => ?_, fun s hs => ?_, fun s hs => ?_, fun s hs => ?_, fun s hs => ?_, fun s hs => ?_, fun s hs => ?_, fun s hs => ?_, fun s hs => ?_, fun s hs => ?_, fun s hs => ?_, fun s hs => ?_, fun s hs => ?_, fun s hs => ?_, fun s hs => ?_, fun s hs => ?_, fun s hs => ?_, fun s hs => ?_, fun s hs => ?_, fun s hs => ?_, fun s hs => ?_, fun s hs => ?_, fun s hs => ?_, fun s hs => ?_, fun s hs => ?_, fun s hs => ?_, fun s hs => ?_, fun s hs => ?_, fun s hs => ?_, fun s hs => ?_, fun s hs => ?_, fun s hs => ?_, fun s hs => ?_, fun s hs => ?_, fun s hs => ?_, fun s hs => ?_, trivial⟩
       · obtain rfl := Option.some.inj (show some _ = some s from hs)
         (repeat ((repeat1' (first | simp -implicitDefEqProofs -dsimp only [go_sem] | simp -dsimp (disch := omega) only [wrap_i64])); repeat (with_reducible refine sideA ?_)))
         (first | refine callT.at (l1Least_ok 1000000 (m + rt + vc9)) ⟨leA, leA, trivial⟩ ?_ | refine callS.at (l1Least_ok 1000000 (m + rt + vc9)) ⟨leA, leA, trivial⟩ ?_)
         (repeat ((repeat1' (first | simp -implicitDefEqProofs -dsimp only [go_sem] | simp -dsimp (disch := omega) only [wrap_i64])); repeat (with_reducible refine sideA ?_)))
         (first | refine callT.at (l1Most_ok 0 (min 1000000 (m + rt + vc9))) ⟨leA, leA, trivial⟩ ?_ | refine callS.at (l1Most_ok 0 (min 1000000 (m + rt + vc9))) ⟨leA, leA, trivial⟩ ?_)
         (repeat ((repeat1' (first | simp -implicitDefEqProofs -dsimp only [go_sem, hsn] | simp -dsimp (disch := omega) only [wrap_i64])); repeat (with_reducible refine sideA ?_)))
         refine ⟨(n + 1, S ++ [⟨9 * (n : Int), vc6, vc7, max 0 (min 1000000 (m + rt + vc9)), vc8⟩], c9), ⟨⟨by simp only []; omega, by simp only []; omega⟩, by simp only [List.length_append, List.length_cons, List.length_nil]; omega, lmonoQ hc9 (by simp only []; omega)⟩, ?_, by simp only []; omega⟩
         refine Weak.cut (4) (by simp) (by simp) ?_ ?_
         · simp [LeC, LeV, ren, cutF]
         · simp [cutH, cutB, cutF, Cur.ren, ren, map_ren_rows, Origin.cs]
       all_goals (obtain rfl := Option.some.inj (show some _ = some s from hs))
       all_goals (repeat' (first | exact trivial | refine nextA_cons rfl ?_ ?_))
       all_goals (repeat ((repeat1' (first | simp -implicitDefEqProofs -dsimp only [go_sem] | simp -dsimp (disch := omega) only [wrap_i64])); repeat (with_reducible refine sideA ?_)))
       all_goals (try ((first | refine callS.lend [0, 9] false p9 (by decide) ⟨leO, leO, trivial⟩ (lendCur2 rfl rfl) (growCur2 B _ _) (.inl rfl) ?_ | (first | refine callT.at (pm) ⟨leA, leA, trivial⟩ ?_ | refine callS.at (pm) ⟨leA, leA, trivial⟩ ?_) | (first | refine callT.at (psq) ⟨leA, leA, leA, leA, trivial⟩ ?_ | refine callS.at (psq) ⟨leA, leA, leA, leA, trivial⟩ ?_) | (first | refine callT.at (prt) ⟨leA, trivial⟩ ?_ | refine callS.at (prt) ⟨leA, trivial⟩ ?_)); (repeat ((repeat1' (first | simp -implicitDefEqProofs -dsimp only [go_sem, Cur.ren, map_ren_rows] | simp -dsimp (disch := omega) only [wrap_i64])); repeat (with_reducible refine sideA ?_)))))
       refine ⟨_, rfl, Weak.pk [0, 1, 2, 3, 4, 5, 6, 7, 8] ?_ ?_⟩
       rotate_left 2
       refine ⟨_, rfl, Weak.pk [0, 1, 2, 3, 4, 5, 6, 7, 8] ?_ ?_⟩
       rotate_left 2
       refine ⟨_, rfl, Weak.pk [0, 1, 2, 3, 4, 5, 6, 7, 8] ?_ ?_⟩
       rotate_left 2
       refine ⟨_, rfl, Weak.pk [0, 1, 2, 3, 4, 5, 6, 7, 8] ?_ ?_⟩
       rotate_left 2
       refine ⟨_, rfl, Weak.pk [0, 1, 2, 3, 4, 5, 6, 7, 8, 9] ?_ ?_⟩
       rotate_left 2
       refine ⟨_, rfl, Weak.pk [0, 1, 2, 3, 4, 5, 6, 7, 8, 9] ?_ ?_⟩
       rotate_left 2
       refine ⟨_, rfl, Weak.pk [0, 1, 2, 3, 4, 5, 6, 7, 8, 9] ?_ ?_⟩
       rotate_left 2
       refine ⟨_, rfl, Weak.pk [0, 1, 2, 3, 4, 5, 6, 7, 8, 9] ?_ ?_⟩
       rotate_left 2
       refine ⟨_, rfl, Weak.pk [0, 1, 2, 3, 4, 5, 6, 7, 8, 9] ?_ ?_⟩
       rotate_left 2
       refine ⟨_, rfl, Weak.pk [0, 1, 2, 3, 4, 5, 6, 7, 8, 9] ?_ ?_⟩
       rotate_left 2
       refine ⟨_, rfl, Weak.pk [0, 1, 2, 3, 4, 5, 6, 7, 8, 9] ?_ ?_⟩
       rotate_left 2
       refine ⟨_, rfl, Weak.pk [0, 1, 2, 3, 4, 5, 6, 7, 8, 9] ?_ ?_⟩
       rotate_left 2
       refine ⟨_, rfl, Weak.pk [0, 1, 2, 3, 4, 5, 6, 7, 8, 9] ?_ ?_⟩
       rotate_left 2
       refine ⟨_, rfl, Weak.pk [0, 1, 2, 3, 4, 5, 6, 7, 8, 9] ?_ ?_⟩
       rotate_left 2
       refine ⟨_, rfl, Weak.pk [0, 1, 2, 3, 4, 5, 6, 7, 8, 9] ?_ ?_⟩
       rotate_left 2
       refine ⟨_, rfl, Weak.pk [0, 1, 2, 3, 4, 5, 6, 7, 8, 9] ?_ ?_⟩
       rotate_left 2
       refine ⟨_, rfl, Weak.pk [0, 1, 2, 3, 4, 5, 6, 7, 8, 9] ?_ ?_⟩
       rotate_left 2
       refine ⟨_, rfl, Weak.pk [0, 1, 2, 3, 4, 5, 6, 7, 8, 9] ?_ ?_⟩
       rotate_left 2
       refine ⟨_, rfl, Weak.pk [0, 1, 2, 3, 4, 5, 6, 7, 8, 9] ?_ ?_⟩
       rotate_left 2
       refine ⟨_, rfl, Weak.pk [0, 1, 2, 3, 4, 5, 6, 7, 8, 9] ?_ ?_⟩
       rotate_left 2
       refine ⟨_, rfl, Weak.pk [0, 1, 2, 3, 4, 5, 6, 7, 8, 9] ?_ ?_⟩
       rotate_left 2
       refine ⟨_, rfl, Weak.pk [0, 1, 2, 3, 4, 5, 6, 7, 8, 9] ?_ ?_⟩
       rotate_left 2
       refine ⟨_, rfl, Weak.pk [0, 1, 2, 3, 4, 5, 6, 7, 8, 9] ?_ ?_⟩
       rotate_left 2
       refine ⟨_, rfl, Weak.pk [0, 1, 2, 3, 4, 5, 6, 7, 8, 9] ?_ ?_⟩
       rotate_left 2
       refine ⟨_, rfl, Weak.pk [0, 1, 2, 3, 4, 5, 6, 7, 8, 9] ?_ ?_⟩
       rotate_left 2
       refine ⟨_, rfl, Weak.pk [0, 1, 2, 3, 4, 5, 6, 7, 8, 9] ?_ ?_⟩
       rotate_left 2
       refine ⟨_, rfl, Weak.pk [0, 1, 2, 3, 4, 5, 6, 7, 8, 9] ?_ ?_⟩
       rotate_left 2
       refine ⟨_, rfl, Weak.pk [0, 1, 2, 3, 4, 5, 6, 7, 8, 9] ?_ ?_⟩
       rotate_left 2
       refine ⟨_, rfl, Weak.pk [0, 1, 2, 3, 4, 5, 6, 7, 8, 9] ?_ ?_⟩
       rotate_left 2
       refine ⟨_, rfl, Weak.pk [0, 1, 2, 3, 4, 5, 6, 7, 8, 9] ?_ ?_⟩
       rotate_left 2
       refine ⟨_, rfl, Weak.pk [0, 1, 2, 3, 4, 5, 6, 7, 8, 9] ?_ ?_⟩
       rotate_left 2
       refine ⟨_, rfl, Weak.pk [0, 1, 2, 3, 4, 5, 6, 7, 8, 9] ?_ ?_⟩
       rotate_left 2
       refine ⟨_, rfl, Weak.pk [0, 1, 2, 3, 4, 5, 6, 7, 8, 9] ?_ ?_⟩
       rotate_left 2
       refine ⟨_, rfl, Weak.pk [0, 1, 2, 3, 4, 5, 6, 7, 8, 9] ?_ ?_⟩
       rotate_left 2
       refine ⟨_, rfl, Weak.pk [0, 1, 2, 3, 4, 5, 6, 7, 8, 9] ?_ ?_⟩
       rotate_left 2
       refine ⟨_, rfl, Weak.pk [0, 1, 2, 3, 4, 5, 6, 7, 8, 9] ?_ ?_⟩
       rotate_left 2
       refine ⟨_, rfl, Weak.pk [0, 1, 2, 3, 4, 5, 6, 7, 8, 9] ?_ ?_⟩
       rotate_left 2
       refine ⟨_, rfl, Weak.pk [0, 1, 2, 3, 4, 5, 6, 7, 8, 9] ?_ ?_⟩
       rotate_left 2
       refine ⟨_, rfl, Weak.pk [0, 1, 2, 3, 4, 5, 6, 7, 8, 9] ?_ ?_⟩
       rotate_left 2
       refine ⟨_, rfl, Weak.pk [0, 1, 2, 3, 4, 5, 6, 7, 8, 9] ?_ ?_⟩
       rotate_left 2
       refine ⟨_, rfl, Weak.pk [0, 1, 2, 3, 4, 5, 6, 7, 8, 9] ?_ ?_⟩
       rotate_left 2
       refine ⟨_, rfl, Weak.pk [0, 1, 2, 3, 4, 5, 6, 7, 8, 9] ?_ ?_⟩
       rotate_left 2
       refine ⟨_, rfl, Weak.pk [0, 1, 2, 3, 4, 5, 6, 7, 8, 9] ?_ ?_⟩
       rotate_left 2
       refine ⟨_, rfl, Weak.pk [0, 1, 2, 3, 4, 5, 6, 7, 8, 9] ?_ ?_⟩
       rotate_left 2
       refine ⟨_, rfl, Weak.pk [0, 1, 2, 3, 4, 5, 6, 7, 8, 9] ?_ ?_⟩
       rotate_left 2
       refine ⟨_, rfl, Weak.pk [0, 1, 2, 3, 4, 5, 6, 7, 8, 9] ?_ ?_⟩
       rotate_left 2
       refine ⟨_, rfl, Weak.pk [0, 1, 2, 3, 4, 5, 6, 7, 8, 9] ?_ ?_⟩
       rotate_left 2
       refine ⟨_, rfl, Weak.pk [0, 1, 2, 3, 4, 5, 6, 7, 8, 9] ?_ ?_⟩
       rotate_left 2
       refine ⟨_, rfl, Weak.pk [0, 1, 2, 3, 4, 5, 6, 7, 8, 9] ?_ ?_⟩
       rotate_left 2
       refine ⟨_, rfl, Weak.pk [0, 1, 2, 3, 4, 5, 6, 7, 8, 9] ?_ ?_⟩
       rotate_left 2
       refine ⟨_, rfl, Weak.pk [0, 1, 2, 3, 4, 5, 6, 7, 8, 9] ?_ ?_⟩
       rotate_left 2
       refine ⟨_, rfl, Weak.pk [0, 1, 2, 3, 4, 5, 6, 7, 8, 9] ?_ ?_⟩
       rotate_left 2
       refine ⟨_, rfl, Weak.pk [0, 1, 2, 3, 4, 5, 6, 7, 8, 9] ?_ ?_⟩
       rotate_left 2
       refine ⟨_, rfl, Weak.pk [0, 1, 2, 3, 4, 5, 6, 7, 8, 9] ?_ ?_⟩
       rotate_left 2
       refine ⟨_, rfl, Weak.pk [0, 1, 2, 3, 4, 5, 6, 7, 8, 9] ?_ ?_⟩
       rotate_left 2
       refine ⟨_, rfl, Weak.pk [0, 1, 2, 3, 4, 5, 6, 7, 8, 9] ?_ ?_⟩
       rotate_left 2
       refine ⟨_, rfl, Weak.pk [0, 1, 2, 3, 4, 5, 6, 7, 8, 9] ?_ ?_⟩
       rotate_left 2
       refine ⟨_, rfl, Weak.pk [0, 1, 2, 3, 4, 5, 6, 7, 8, 9] ?_ ?_⟩
       rotate_left 2
       refine ⟨_, rfl, Weak.pk [0, 1, 2, 3, 4, 5, 6, 7, 8, 9] ?_ ?_⟩
       rotate_left 2
       refine ⟨_, rfl, Weak.pk [0, 1, 2, 3, 4, 5, 6, 7, 8, 9] ?_ ?_⟩
       rotate_left 2
       refine ⟨_, rfl, Weak.pk [0, 1, 2, 3, 4, 5, 6, 7, 8, 9] ?_ ?_⟩
       rotate_left 2
       refine ⟨_, rfl, Weak.pk [0, 1, 2, 3, 4, 5, 6, 7, 8, 9] ?_ ?_⟩
       rotate_left 2
       refine ⟨_, rfl, Weak.pk [0, 1, 2, 3, 4, 5, 6, 7, 8, 9] ?_ ?_⟩
       rotate_left 2
       refine ⟨_, rfl, Weak.pk [0, 1, 2, 3, 4, 5, 6, 7, 8, 9] ?_ ?_⟩
       rotate_left 2
       refine ⟨_, rfl, Weak.pk [0, 1, 2, 3, 4, 5, 6, 7, 8, 9] ?_ ?_⟩
       rotate_left 2
       refine ⟨_, rfl, Weak.pk [0, 1, 2, 3, 4, 5, 6, 7, 8, 9] ?_ ?_⟩
       rotate_left 2
       refine ⟨_, rfl, Weak.pk [0, 1, 2, 3, 4, 5, 6, 7, 8, 9] ?_ ?_⟩
       rotate_left 2
       refine ⟨_, rfl, Weak.pk [0, 1, 2, 3, 4, 5, 6, 7, 8, 9] ?_ ?_⟩
       rotate_left 2
       refine ⟨_, rfl, Weak.pk [0, 1, 2, 3, 4, 5, 6, 7, 8, 9] ?_ ?_⟩
       rotate_left 2
       refine ⟨_, rfl, Weak.pk [0, 1, 2, 3, 4, 5, 6, 7, 8, 9] ?_ ?_⟩
       rotate_left 2
       refine ⟨_, rfl, Weak.pk [0, 1, 2, 3, 4, 5, 6, 7, 8, 9] ?_ ?_⟩
       rotate_left 2
       refine ⟨_, rfl, Weak.pk [0, 1, 2, 3, 4, 5, 6, 7, 8, 9] ?_ ?_⟩
       rotate_left 2
       refine ⟨_, rfl, Weak.pk [0, 1, 2, 3, 4, 5, 6, 7, 8, 9] ?_ ?_⟩
       rotate_left 2
       refine ⟨_, rfl, Weak.pk [0, 1, 2, 3, 4, 5, 6, 7, 8, 9] ?_ ?_⟩
       rotate_left 2
       refine ⟨_, rfl, Weak.pk [0, 1, 2, 3, 4, 5, 6, 7, 8, 9] ?_ ?_⟩
       rotate_left 2
       refine ⟨_, rfl, Weak.pk [0, 1, 2, 3, 4, 5, 6, 7, 8, 9] ?_ ?_⟩
       rotate_left 2
       refine ⟨_, rfl, Weak.pk [0, 1, 2, 3, 4, 5, 6, 7, 8, 9] ?_ ?_⟩
       rotate_left 2
       refine ⟨_, rfl, Weak.pk [0, 1, 2, 3, 4, 5, 6, 7, 8, 9] ?_ ?_⟩
       rotate_left 2
       refine ⟨_, rfl, Weak.pk [0, 1, 2, 3, 4, 5, 6, 7, 8, 9] ?_ ?_⟩
       rotate_left 2
       refine ⟨_, rfl, Weak.pk [0, 1, 2, 3, 4, 5, 6, 7, 8, 9] ?_ ?_⟩
       rotate_left 2
       refine ⟨_, rfl, Weak.pk [0, 1, 2, 3, 4, 5, 6, 7, 8, 9] ?_ ?_⟩
       rotate_left 2
       refine ⟨_, rfl, Weak.pk [0, 1, 2, 3, 4, 5, 6, 7, 8, 9] ?_ ?_⟩
       rotate_left 2
       refine ⟨_, rfl, Weak.pk [0, 1, 2, 3, 4, 5, 6, 7, 8, 9] ?_ ?_⟩
       rotate_left 2
       refine ⟨_, rfl, Weak.pk [0, 1, 2, 3, 4, 5, 6, 7, 8, 9] ?_ ?_⟩
       rotate_left 2
       refine ⟨_, rfl, Weak.pk [0, 1, 2, 3, 4, 5, 6, 7, 8, 9] ?_ ?_⟩
       rotate_left 2
       refine ⟨_, rfl, Weak.pk [0, 1, 2, 3, 4, 5, 6, 7, 8, 9] ?_ ?_⟩
       rotate_left 2
       refine ⟨_, rfl, Weak.pk [0, 1, 2, 3, 4, 5, 6, 7, 8, 9] ?_ ?_⟩
       rotate_left 2
       refine ⟨_, rfl, Weak.pk [0, 1, 2, 3, 4, 5, 6, 7, 8, 9] ?_ ?_⟩
       rotate_left 2
       refine ⟨_, rfl, Weak.pk [0, 1, 2, 3, 4, 5, 6, 7, 8, 9] ?_ ?_⟩
       rotate_left 2
       refine ⟨_, rfl, Weak.pk [0, 1, 2, 3, 4, 5, 6, 7, 8, 9] ?_ ?_⟩
       rotate_left 2
       refine ⟨_, rfl, Weak.pk [0, 1, 2, 3, 4, 5, 6, 7, 8, 9] ?_ ?_⟩
       rotate_left 2
       refine ⟨_, rfl, Weak.pk [0, 1, 2, 3, 4, 5, 6, 7, 8, 9] ?_ ?_⟩
       rotate_left 2
       refine ⟨_, rfl, Weak.pk [0, 1, 2, 3, 4, 5, 6, 7, 8, 9] ?_ ?_⟩
       rotate_left 2
       refine ⟨_, rfl, Weak.pk [0, 1, 2, 3, 4, 5, 6, 7, 8, 9] ?_ ?_⟩
       rotate_left 2
       refine ⟨_, rfl, Weak.pk [0, 1, 2, 3, 4, 5, 6, 7, 8, 9] ?_ ?_⟩
       rotate_left 2
       refine ⟨_, rfl, Weak.pk [0, 1, 2, 3, 4, 5, 6, 7, 8, 9] ?_ ?_⟩
       rotate_left 2
       refine ⟨_, rfl, Weak.pk [0, 1, 2, 3, 4, 5, 6, 7, 8, 9] ?_ ?_⟩
       rotate_left 2
       refine ⟨_, rfl, Weak.pk [0, 1, 2, 3, 4, 5, 6, 7, 8, 9] ?_ ?_⟩
       rotate_left 2
       refine ⟨_, rfl, Weak.pk [0, 1, 2, 3, 4, 5, 6, 7, 8, 9] ?_ ?_⟩
       rotate_left 2
       refine ⟨_, rfl, Weak.pk [0, 1, 2, 3, 4, 5, 6, 7, 8, 9] ?_ ?_⟩
       rotate_left 2
       refine ⟨_, rfl, Weak.pk [0, 1, 2, 3, 4, 5, 6, 7, 8, 9] ?_ ?_⟩
       rotate_left 2
       refine ⟨_, rfl, Weak.pk [0, 1, 2, 3, 4, 5, 6, 7, 8, 9] ?_ ?_⟩
       rotate_left 2
       refine ⟨_, rfl, Weak.pk [0, 1, 2, 3, 4, 5, 6, 7, 8, 9] ?_ ?_⟩
       rotate_left 2
       refine ⟨_, rfl, Weak.pk [0, 1, 2, 3, 4, 5, 6, 7, 8, 9] ?_ ?_⟩
       rotate_left 2
       refine ⟨_, rfl, Weak.pk [0, 1, 2, 3, 4, 5, 6, 7, 8, 9] ?_ ?_⟩
       rotate_left 2
       refine ⟨_, rfl, Weak.pk [0, 1, 2, 3, 4, 5, 6, 7, 8, 9] ?_ ?_⟩
       rotate_left 2
       refine ⟨_, rfl, Weak.pk [0, 1, 2, 3, 4, 5, 6, 7, 8, 9] ?_ ?_⟩
       rotate_left 2
       refine ⟨_, rfl, Weak.pk [0, 1, 2, 3, 4, 5, 6, 7, 8, 9] ?_ ?_⟩
       rotate_left 2
       refine ⟨_, rfl, Weak.pk [0, 1, 2, 3, 4, 5, 6, 7, 8, 9] ?_ ?_⟩
       rotate_left 2
       refine ⟨_, rfl, Weak.pk [0, 1, 2, 3, 4, 5, 6, 7, 8, 9] ?_ ?_⟩
       rotate_left 2
       refine ⟨_, rfl, Weak.pk [0, 1, 2, 3, 4, 5, 6, 7, 8, 9] ?_ ?_⟩
       rotate_left 2
       refine ⟨_, rfl, Weak.pk [0, 1, 2, 3, 4, 5, 6, 7, 8, 9] ?_ ?_⟩
       rotate_left 2
       refine ⟨_, rfl, Weak.pk [0, 1, 2, 3, 4, 5, 6, 7, 8, 9] ?_ ?_⟩
       rotate_left 2
       refine ⟨_, rfl, Weak.pk [0, 1, 2, 3, 4, 5, 6, 7, 8, 9] ?_ ?_⟩
       rotate_left 2
       refine ⟨_, rfl, Weak.pk [0, 1, 2, 3, 4, 5, 6, 7, 8, 9] ?_ ?_⟩
       rotate_left 2
       refine ⟨_, rfl, Weak.pk [0, 1, 2, 3, 4, 5, 6, 7, 8, 9] ?_ ?_⟩
       rotate_left 2
       refine ⟨_, rfl, Weak.pk [0, 1, 2, 3, 4, 5, 6, 7, 8, 9] ?_ ?_⟩
       rotate_left 2
       refine ⟨_, rfl, Weak.pk [0, 1, 2, 3, 4, 5, 6, 7, 8, 9] ?_ ?_⟩
       rotate_left 2
       refine ⟨_, rfl, Weak.pk [0, 1, 2, 3, 4, 5, 6, 7, 8, 9] ?_ ?_⟩
       rotate_left 2
       refine ⟨_, rfl, Weak.pk [0, 1, 2, 3, 4, 5, 6, 7, 8, 9] ?_ ?_⟩
       rotate_left 2
       refine ⟨_, rfl, Weak.pk [0, 1, 2, 3, 4, 5, 6, 7, 8, 9] ?_ ?_⟩
       rotate_left 2
       refine ⟨_, rfl, Weak.pk [0, 1, 2, 3, 4, 5, 6, 7, 8, 9] ?_ ?_⟩
       rotate_left 2
       refine ⟨_, rfl, Weak.pk [0, 1, 2, 3, 4, 5, 6, 7, 8, 9] ?_ ?_⟩
       rotate_left 2
       refine ⟨_, rfl, Weak.pk [0, 1, 2, 3, 4, 5, 6, 7, 8, 9] ?_ ?_⟩
       rotate_left 2
       refine ⟨_, rfl, Weak.pk [0, 1, 2, 3, 4, 5, 6, 7, 8, 9] ?_ ?_⟩
       rotate_left 2
       refine ⟨_, rfl, Weak.pk [0, 1, 2, 3, 4, 5, 6, 7, 8, 9] ?_ ?_⟩
       rotate_left 2
       refine ⟨_, rfl, Weak.pk [0, 1, 2, 3, 4, 5, 6, 7, 8, 9] ?_ ?_⟩
       rotate_left 2
       refine ⟨_, rfl, Weak.pk [0, 1, 2, 3, 4, 5, 6, 7, 8, 9] ?_ ?_⟩
       rotate_left 2
       refine ⟨_, rfl, Weak.pk [0, 1, 2, 3, 4, 5, 6, 7, 8, 9] ?_ ?_⟩
       rotate_left 2
       refine ⟨_, rfl, Weak.pk [0, 1, 2, 3, 4, 5, 6, 7, 8, 9] ?_ ?_⟩
       rotate_left 2
       refine ⟨_, rfl, Weak.pk [0, 1, 2, 3, 4, 5, 6, 7, 8, 9] ?_ ?_⟩
       rotate_left 2
       refine ⟨_, rfl, Weak.pk [0, 1, 2, 3, 4, 5, 6, 7, 8, 9] ?_ ?_⟩
       rotate_left 2
       refine ⟨_, rfl, Weak.pk [0, 1, 2, 3, 4, 5, 6, 7, 8, 9] ?_ ?_⟩
       rotate_left 2
       refine ⟨_, rfl, Weak.pk [0, 1, 2, 3, 4, 5, 6, 7, 8, 9] ?_ ?_⟩
       rotate_left 2
       refine ⟨_, rfl, Weak.pk [0, 1, 2, 3, 4, 5, 6, 7, 8, 9] ?_ ?_⟩
       rotate_left 2
       refine ⟨_, rfl, Weak.pk [0, 1, 2, 3, 4, 5, 6, 7, 8, 9] ?_ ?_⟩
       rotate_left 2
       refine ⟨_, rfl, Weak.pk [0, 1, 2, 3, 4, 5, 6, 7, 8] ?_ ?_⟩
       rotate_left 2
       refine ⟨_, rfl, Weak.pk [0, 1, 2, 3, 4, 5, 6, 7, 8] ?_ ?_⟩
       rotate_left 2
       refine ⟨_, rfl, Weak.pk [0, 1, 2, 3, 4, 5, 6, 7, 8, 9] ?_ ?_⟩
       rotate_left 2
       refine ⟨_, rfl, Weak.pk [0, 1, 2, 3, 4, 5, 6, 7, 8] ?_ ?_⟩
       rotate_left 2
       refine ⟨_, rfl, Weak.pk [0, 1, 2, 3, 4, 5, 6, 7, 8, 9] ?_ ?_⟩
       rotate_left 2
       refine ⟨_, rfl, Weak.pk [0, 1, 2, 3, 4, 5, 6, 7, 8] ?_ ?_⟩
       rotate_left 2
       refine ⟨_, rfl, Weak.pk [0, 1, 2, 3, 4, 5, 6, 7, 8, 9] ?_ ?_⟩
       rotate_left 2
       refine ⟨_, rfl, Weak.pk [0, 1, 2, 3, 4, 5, 6, 7, 8] ?_ ?_⟩
       rotate_left 2
       refine ⟨_, rfl, Weak.pk [0, 1, 2, 3, 4, 5, 6, 7, 8, 9] ?_ ?_⟩
       rotate_left 2
       refine ⟨_, rfl, Weak.pk [0, 1, 2, 3, 4, 5, 6, 7, 8] ?_ ?_⟩
       rotate_left 2
       refine ⟨_, rfl, Weak.pk [0, 1, 2, 3, 4, 5, 6, 7, 8, 9] ?_ ?_⟩
       rotate_left 2
       refine ⟨_, rfl, Weak.pk [0, 1, 2, 3, 4, 5, 6, 7, 8] ?_ ?_⟩
       rotate_left 2
       refine ⟨_, rfl, Weak.pk [0, 1, 2, 3, 4, 5, 6, 7, 8] ?_ ?_⟩
       rotate_left 2
       refine ⟨_, rfl, Weak.pk [0, 1, 2, 3, 4, 5, 6, 7, 8, 9] ?_ ?_⟩
       rotate_left 2
       refine ⟨_, rfl, Weak.pk [0, 1, 2, 3, 4, 5, 6, 7, 8] ?_ ?_⟩
       rotate_left 2
       refine ⟨_, rfl, Weak.pk [0, 1, 2, 3, 4, 5, 6, 7, 8] ?_ ?_⟩
       rotate_left 2
       refine ⟨_, rfl, Weak.pk [0, 1, 2, 3, 4, 5, 6, 7, 8, 9] ?_ ?_⟩
       rotate_left 2
       refine ⟨_, rfl, Weak.pk [0, 1, 2, 3, 4, 5, 6, 7, 8] ?_ ?_⟩
       rotate_left 2
       refine ⟨_, rfl, Weak.pk [0, 1, 2, 3, 4, 5, 6, 7, 8, 9] ?_ ?_⟩
       rotate_left 2
       refine ⟨_, rfl, Weak.pk [0, 1, 2, 3, 4, 5, 6, 7, 8] ?_ ?_⟩
       rotate_left 2
       refine ⟨_, rfl, Weak.pk [0, 1, 2, 3, 4, 5, 6, 7, 8] ?_ ?_⟩
       rotate_left 2
       refine ⟨_, rfl, Weak.pk [0, 1, 2, 3, 4, 5, 6, 7, 8, 9] ?_ ?_⟩
       rotate_left 2
       refine ⟨_, rfl, Weak.pk [0, 1, 2, 3, 4, 5, 6, 7, 8] ?_ ?_⟩
       rotate_left 2
       refine ⟨_, rfl, Weak.pk [0, 1, 2, 3, 4, 5, 6, 7, 8] ?_ ?_⟩
       rotate_left 2
       refine ⟨_, rfl, Weak.pk [0, 1, 2, 3, 4, 5, 6, 7, 8, 9] ?_ ?_⟩
       rotate_left 2
       refine ⟨_, rfl, Weak.pk [0, 1, 2, 3, 4, 5, 6, 7, 8] ?_ ?_⟩
       rotate_left 2
       refine ⟨_, rfl, Weak.pk [0, 1, 2, 3, 4, 5, 6, 7, 8] ?_ ?_⟩
       rotate_left 2
       refine ⟨_, rfl, Weak.pk [0, 1, 2, 3, 4, 5, 6, 7, 8, 9] ?_ ?_⟩
       rotate_left 2
       refine ⟨_, rfl, Weak.pk [0, 1, 2, 3, 4, 5, 6, 7, 8] ?_ ?_⟩
       rotate_left 2
       refine ⟨_, rfl, Weak.pk [0, 1, 2, 3, 4, 5, 6, 7, 8] ?_ ?_⟩
       rotate_left 2
       refine ⟨_, rfl, Weak.pk [0, 1, 2, 3, 4, 5, 6, 7, 8] ?_ ?_⟩
       rotate_left 2
       refine ⟨_, rfl, Weak.pk [0, 1, 2, 3, 4, 5, 6, 7, 8, 9] ?_ ?_⟩
       rotate_left 2
       refine ⟨_, rfl, Weak.pk [0, 1, 2, 3, 4, 5, 6, 7, 8] ?_ ?_⟩
       rotate_left 2
       refine ⟨_, rfl, Weak.pk [0, 1, 2, 3, 4, 5, 6, 7, 8] ?_ ?_⟩
       rotate_left 2
       refine ⟨_, rfl, Weak.pk [0, 1, 2, 3, 4, 5, 6, 7, 8] ?_ ?_⟩
       rotate_left 2
       refine ⟨_, rfl, Weak.pk [0, 1, 2, 3, 4, 5, 6, 7, 8, 9] ?_ ?_⟩
       rotate_left 2
       refine ⟨_, rfl, Weak.pk [0, 1, 2, 3, 4, 5, 6, 7, 8] ?_ ?_⟩
       rotate_left 2
       refine ⟨_, rfl, Weak.pk [0, 1, 2, 3, 4, 5, 6, 7, 8, 9] ?_ ?_⟩
       rotate_left 2
       refine ⟨_, rfl, Weak.pk [0, 1, 2, 3, 4, 5, 6, 7, 8] ?_ ?_⟩
       rotate_left 2
       refine ⟨_, rfl, Weak.pk [0, 1, 2, 3, 4, 5, 6, 7, 8] ?_ ?_⟩
       rotate_left 2
       refine ⟨_, rfl, Weak.pk [0, 1, 2, 3, 4, 5, 6, 7, 8, 9] ?_ ?_⟩
       rotate_left 2
       refine ⟨_, rfl, Weak.pk [0, 1, 2, 3, 4, 5, 6, 7, 8] ?_ ?_⟩
       rotate_left 2
       refine ⟨_, rfl, Weak.pk [0, 1, 2, 3, 4, 5, 6, 7, 8] ?_ ?_⟩
       rotate_left 2
       refine ⟨_, rfl, Weak.pk [0, 1, 2, 3, 4, 5, 6, 7, 8, 9] ?_ ?_⟩
       rotate_left 2
       refine ⟨_, rfl, Weak.pk [0, 1, 2, 3, 4, 5, 6, 7, 8] ?_ ?_⟩
       rotate_left 2
       refine ⟨_, rfl, Weak.pk [0, 1, 2, 3, 4, 5, 6, 7, 8] ?_ ?_⟩
       rotate_left 2
       refine ⟨_, rfl, Weak.pk [0, 1, 2, 3, 4, 5, 6, 7, 8, 9] ?_ ?_⟩
       rotate_left 2
       refine ⟨_, rfl, Weak.pk [0, 1, 2, 3, 4, 5, 6, 7, 8] ?_ ?_⟩
       rotate_left 2
       refine ⟨_, rfl, Weak.pk [0, 1, 2, 3, 4, 5, 6, 7, 8] ?_ ?_⟩
       rotate_left 2
       refine ⟨_, rfl, Weak.pk [0, 1, 2, 3, 4, 5, 6, 7, 8] ?_ ?_⟩
       rotate_left 2
       refine ⟨_, rfl, Weak.pk [0, 1, 2, 3, 4, 5, 6, 7, 8, 9] ?_ ?_⟩
       rotate_left 2
       refine ⟨_, rfl, Weak.pk [0, 1, 2, 3, 4, 5, 6, 7, 8] ?_ ?_⟩
       rotate_left 2
       refine ⟨_, rfl, Weak.pk [0, 1, 2, 3, 4, 5, 6, 7, 8] ?_ ?_⟩
       rotate_left 2
       refine ⟨_, rfl, Weak.pk [0, 1, 2, 3, 4, 5, 6, 7, 8] ?_ ?_⟩
       rotate_left 2
       refine ⟨_, rfl, Weak.pk [0, 1, 2, 3, 4, 5, 6, 7, 8, 9] ?_ ?_⟩
       rotate_left 2
       refine ⟨_, rfl, Weak.pk [0, 1, 2, 3, 4, 5, 6, 7, 8] ?_ ?_⟩
       rotate_left 2
       refine ⟨_, rfl, Weak.pk [0, 1, 2, 3, 4, 5, 6, 7, 8] ?_ ?_⟩
       rotate_left 2
       refine ⟨_, rfl, Weak.pk [0, 1, 2, 3, 4, 5, 6, 7, 8, 9] ?_ ?_⟩
       rotate_left 2
       refine ⟨_, rfl, Weak.pk [0, 1, 2, 3, 4, 5, 6, 7, 8] ?_ ?_⟩
       rotate_left 2
       refine ⟨_, rfl, Weak.pk [0, 1, 2, 3, 4, 5, 6, 7, 8] ?_ ?_⟩
       rotate_left 2
       refine ⟨_, rfl, Weak.pk [0, 1, 2, 3, 4, 5, 6, 7, 8] ?_ ?_⟩
       rotate_left 2
       refine ⟨_, rfl, Weak.pk [0, 1, 2, 3, 4, 5, 6, 7, 8, 9] ?_ ?_⟩
       rotate_left 2
       refine ⟨_, rfl, Weak.pk [0, 1, 2, 3, 4, 5, 6, 7, 8] ?_ ?_⟩
       rotate_left 2
       refine ⟨_, rfl, Weak.pk [0, 1, 2, 3, 4, 5, 6, 7, 8] ?_ ?_⟩
       rotate_left 2
       refine ⟨_, rfl, Weak.pk [0, 1, 2, 3, 4, 5, 6, 7, 8] ?_ ?_⟩
       rotate_left 2
       refine ⟨_, rfl, Weak.pk [0, 1, 2, 3, 4, 5, 6, 7, 8, 9] ?_ ?_⟩
       rotate_left 2
       refine ⟨_, rfl, Weak.pk [0, 1, 2, 3, 4, 5, 6, 7, 8] ?_ ?_⟩
       rotate_left 2
       refine ⟨_, rfl, Weak.pk [0, 1, 2, 3, 4, 5, 6, 7, 8] ?_ ?_⟩
       rotate_left 2
       refine ⟨_, rfl, Weak.pk [0, 1, 2, 3, 4, 5, 6, 7, 8] ?_ ?_⟩
       rotate_left 2
       refine ⟨_, rfl, Weak.pk [0, 1, 2, 3, 4, 5, 6, 7, 8, 9] ?_ ?_⟩
       rotate_left 2
       refine ⟨_, rfl, Weak.pk [0, 1, 2, 3, 4, 5, 6, 7, 8] ?_ ?_⟩
       rotate_left 2
       refine ⟨_, rfl, Weak.pk [0, 1, 2, 3, 4, 5, 6, 7, 8] ?_ ?_⟩
       rotate_left 2
       refine ⟨_, rfl, Weak.pk [0, 1, 2, 3, 4, 5, 6, 7, 8] ?_ ?_⟩
       rotate_left 2
       refine ⟨_, rfl, Weak.pk [0, 1, 2, 3, 4, 5, 6, 7, 8] ?_ ?_⟩
       rotate_left 2
       refine ⟨_, rfl, Weak.pk [0, 1, 2, 3, 4, 5, 6, 7, 8, 9] ?_ ?_⟩
       rotate_left 2
       refine ⟨_, rfl, Weak.pk [0, 1, 2, 3, 4, 5, 6, 7, 8] ?_ ?_⟩
       rotate_left 2
       refine ⟨_, rfl, Weak.pk [0, 1, 2, 3, 4, 5, 6, 7, 8] ?_ ?_⟩
       rotate_left 2
       refine ⟨_, rfl, Weak.pk [0, 1, 2, 3, 4, 5, 6, 7, 8] ?_ ?_⟩
       rotate_left 2
       refine ⟨_, rfl, Weak.pk [0, 1, 2, 3, 4, 5, 6, 7, 8] ?_ ?_⟩
       rotate_left 2
       refine ⟨_, rfl, Weak.pk [0, 1, 2, 3, 4, 5, 6, 7, 8, 9] ?_ ?_⟩
       rotate_left 2
       refine ⟨_, rfl, Weak.pk [0, 1, 2, 3, 4, 5, 6, 7, 8] ?_ ?_⟩
       rotate_left 2
       refine ⟨_, rfl, Weak.pk [0, 1, 2, 3, 4, 5, 6, 7, 8, 9] ?_ ?_⟩
       rotate_left 2
       refine ⟨_, rfl, Weak.pk [0, 1, 2, 3, 4, 5, 6, 7, 8] ?_ ?_⟩
       rotate_left 2
       refine ⟨_, rfl, Weak.pk [0, 1, 2, 3, 4, 5, 6, 7, 8] ?_ ?_⟩
       rotate_left 2
       refine ⟨_, rfl, Weak.pk [0, 1, 2, 3, 4, 5, 6, 7, 8, 9] ?_ ?_⟩
       rotate_left 2
       refine ⟨_, rfl, Weak.pk [0, 1, 2, 3, 4, 5, 6, 7, 8] ?_ ?_⟩
       rotate_left 2
       refine ⟨_, rfl, Weak.pk [0, 1, 2, 3, 4, 5, 6, 7, 8] ?_ ?_⟩
       rotate_left 2
       refine ⟨_, rfl, Weak.pk [0, 1, 2, 3, 4, 5, 6, 7, 8, 9] ?_ ?_⟩
       rotate_left 2
       refine ⟨_, rfl, Weak.pk [0, 1, 2, 3, 4, 5, 6, 7, 8] ?_ ?_⟩
       rotate_left 2
       refine ⟨_, rfl, Weak.pk [0, 1, 2, 3, 4, 5, 6, 7, 8] ?_ ?_⟩
       rotate_left 2
       refine ⟨_, rfl, Weak.pk [0, 1, 2, 3, 4, 5, 6, 7, 8, 9] ?_ ?_⟩
       rotate_left 2
       refine ⟨_, rfl, Weak.pk [0, 1, 2, 3, 4, 5, 6, 7, 8] ?_ ?_⟩
       rotate_left 2
       refine ⟨_, rfl, Weak.pk [0, 1, 2, 3, 4, 5, 6, 7, 8] ?_ ?_⟩
       rotate_left 2
       refine ⟨_, rfl, Weak.pk [0, 1, 2, 3, 4, 5, 6, 7, 8] ?_ ?_⟩
       rotate_left 2
       refine ⟨_, rfl, Weak.pk [0, 1, 2, 3, 4, 5, 6, 7, 8, 9] ?_ ?_⟩
       rotate_left 2
       refine ⟨_, rfl, Weak.pk [0, 1, 2, 3, 4, 5, 6, 7, 8] ?_ ?_⟩
       rotate_left 2
       refine ⟨_, rfl, Weak.pk [0, 1, 2, 3, 4, 5, 6, 7, 8] ?_ ?_⟩
       rotate_left 2
       refine ⟨_, rfl, Weak.pk [0, 1, 2, 3, 4, 5, 6, 7, 8] ?_ ?_⟩
       rotate_left 2
       refine ⟨_, rfl, Weak.pk [0, 1, 2, 3, 4, 5, 6, 7, 8, 9] ?_ ?_⟩
       rotate_left 2
       refine ⟨_, rfl, Weak.pk [0, 1, 2, 3, 4, 5, 6, 7, 8] ?_ ?_⟩
       rotate_left 2
       refine ⟨_, rfl, Weak.pk [0, 1, 2, 3, 4, 5, 6, 7, 8] ?_ ?_⟩
       rotate_left 2
       refine ⟨_, rfl, Weak.pk [0, 1, 2, 3, 4, 5, 6, 7, 8, 9] ?_ ?_⟩
       rotate_left 2
       refine ⟨_, rfl, Weak.pk [0, 1, 2, 3, 4, 5, 6, 7, 8] ?_ ?_⟩
       rotate_left 2
       refine ⟨_, rfl, Weak.pk [0, 1, 2, 3, 4, 5, 6, 7, 8] ?_ ?_⟩
       rotate_left 2
       refine ⟨_, rfl, Weak.pk [0, 1, 2, 3, 4, 5, 6, 7, 8] ?_ ?_⟩
       rotate_left 2
       refine ⟨_, rfl, Weak.pk [0, 1, 2, 3, 4, 5, 6, 7, 8, 9] ?_ ?_⟩
       rotate_left 2
       refine ⟨_, rfl, Weak.pk [0, 1, 2, 3, 4, 5, 6, 7, 8] ?_ ?_⟩
       rotate_left 2
       refine ⟨_, rfl, Weak.pk [0, 1, 2, 3, 4, 5, 6, 7, 8] ?_ ?_⟩
       rotate_left 2
       refine ⟨_, rfl, Weak.pk [0, 1, 2, 3, 4, 5, 6, 7, 8] ?_ ?_⟩
       rotate_left 2
       refine ⟨_, rfl, Weak.pk [0, 1, 2, 3, 4, 5, 6, 7, 8, 9] ?_ ?_⟩
       rotate_left 2
       refine ⟨_, rfl, Weak.pk [0, 1, 2, 3, 4, 5, 6, 7, 8] ?_ ?_⟩
       rotate_left 2
       refine ⟨_, rfl, Weak.pk [0, 1, 2, 3, 4, 5, 6, 7, 8] ?_ ?_⟩
       rotate_left 2
       refine ⟨_, rfl, Weak.pk [0, 1, 2, 3, 4, 5, 6, 7, 8] ?_ ?_⟩
       rotate_left 2
       refine ⟨_, rfl, Weak.pk [0, 1, 2, 3, 4, 5, 6, 7, 8, 9] ?_ ?_⟩
       rotate_left 2
       refine ⟨_, rfl, Weak.pk [0, 1, 2, 3, 4, 5, 6, 7, 8] ?_ ?_⟩
       rotate_left 2
       refine ⟨_, rfl, Weak.pk [0, 1, 2, 3, 4, 5, 6, 7, 8] ?_ ?_⟩
       rotate_left 2
       refine ⟨_, rfl, Weak.pk [0, 1, 2, 3, 4, 5, 6, 7, 8] ?_ ?_⟩
       rotate_left 2
       refine ⟨_, rfl, Weak.pk [0, 1, 2, 3, 4, 5, 6, 7, 8] ?_ ?_⟩
       rotate_left 2
       refine ⟨_, rfl, Weak.pk [0, 1, 2, 3, 4, 5, 6, 7, 8, 9] ?_ ?_⟩
       rotate_left 2
       refine ⟨_, rfl, Weak.pk [0, 1, 2, 3, 4, 5, 6, 7, 8] ?_ ?_⟩
       rotate_left 2
       refine ⟨_, rfl, Weak.pk [0, 1, 2, 3, 4, 5, 6, 7, 8] ?_ ?_⟩
       rotate_left 2
       refine ⟨_, rfl, Weak.pk [0, 1, 2, 3, 4, 5, 6, 7, 8] ?_ ?_⟩
       rotate_left 2
       refine ⟨_, rfl, Weak.pk [0, 1, 2, 3, 4, 5, 6, 7, 8] ?_ ?_⟩
       rotate_left 2
       refine ⟨_, rfl, Weak.pk [0, 1, 2, 3, 4, 5, 6, 7, 8, 9] ?_ ?_⟩
       rotate_left 2
       refine ⟨_, rfl, Weak.pk [0, 1, 2, 3, 4, 5, 6, 7, 8] ?_ ?_⟩
       rotate_left 2
       refine ⟨_, rfl, Weak.pk [0, 1, 2, 3, 4, 5, 6, 7, 8] ?_ ?_⟩
       rotate_left 2
       refine ⟨_, rfl, Weak.pk [0, 1, 2, 3, 4, 5, 6, 7, 8, 9] ?_ ?_⟩
       rotate_left 2
       refine ⟨_, rfl, Weak.pk [0, 1, 2, 3, 4, 5, 6, 7, 8] ?_ ?_⟩
       rotate_left 2
       refine ⟨_, rfl, Weak.pk [0, 1, 2, 3, 4, 5, 6, 7, 8] ?_ ?_⟩
       rotate_left 2
       refine ⟨_, rfl, Weak.pk [0, 1, 2, 3, 4, 5, 6, 7, 8] ?_ ?_⟩
       rotate_left 2
       refine ⟨_, rfl, Weak.pk [0, 1, 2, 3, 4, 5, 6, 7, 8, 9] ?_ ?_⟩
       rotate_left 2
       refine ⟨_, rfl, Weak.pk [0, 1, 2, 3, 4, 5, 6, 7, 8] ?_ ?_⟩
       rotate_left 2
       refine ⟨_, rfl, Weak.pk [0, 1, 2, 3, 4, 5, 6, 7, 8] ?_ ?_⟩
       rotate_left 2
       refine ⟨_, rfl, Weak.pk [0, 1, 2, 3, 4, 5, 6, 7, 8] ?_ ?_⟩
       rotate_left 2
       refine ⟨_, rfl, Weak.pk [0, 1, 2, 3, 4, 5, 6, 7, 8, 9] ?_ ?_⟩
       rotate_left 2
       refine ⟨_, rfl, Weak.pk [0, 1, 2, 3, 4, 5, 6, 7, 8] ?_ ?_⟩
       rotate_left 2
       refine ⟨_, rfl, Weak.pk [0, 1, 2, 3, 4, 5, 6, 7, 8] ?_ ?_⟩
       rotate_left 2
       refine ⟨_, rfl, Weak.pk [0, 1, 2, 3, 4, 5, 6, 7, 8] ?_ ?_⟩
       rotate_left 2
       refine ⟨_, rfl, Weak.pk [0, 1, 2, 3, 4, 5, 6, 7, 8, 9] ?_ ?_⟩
       rotate_left 2
       refine ⟨_, rfl, Weak.pk [0, 1, 2, 3, 4, 5, 6, 7, 8] ?_ ?_⟩
       rotate_left 2
       refine ⟨_, rfl, Weak.pk [0, 1, 2, 3, 4, 5, 6, 7, 8] ?_ ?_⟩
       rotate_left 2
       refine ⟨_, rfl, Weak.pk [0, 1, 2, 3, 4, 5, 6, 7, 8] ?_ ?_⟩
       rotate_left 2
       refine ⟨_, rfl, Weak.pk [0, 1, 2, 3, 4, 5, 6, 7, 8] ?_ ?_⟩
       rotate_left 2
       refine ⟨_, rfl, Weak.pk [0, 1, 2, 3, 4, 5, 6, 7, 8, 9] ?_ ?_⟩
       rotate_left 2
       refine ⟨_, rfl, Weak.pk [0, 1, 2, 3, 4, 5, 6, 7, 8] ?_ ?_⟩
       rotate_left 2
       refine ⟨_, rfl, Weak.pk [0, 1, 2, 3, 4, 5, 6, 7, 8] ?_ ?_⟩
       rotate_left 2
       refine ⟨_, rfl, Weak.pk [0, 1, 2, 3, 4, 5, 6, 7, 8] ?_ ?_⟩
       rotate_left 2
       refine ⟨_, rfl, Weak.pk [0, 1, 2, 3, 4, 5, 6, 7, 8] ?_ ?_⟩
       rotate_left 2
       refine ⟨_, rfl, Weak.pk [0, 1, 2, 3, 4, 5, 6, 7, 8, 9] ?_ ?_⟩
       rotate_left 2
       refine ⟨_, rfl, Weak.pk [0, 1, 2, 3, 4, 5, 6, 7, 8] ?_ ?_⟩
       rotate_left 2
       refine ⟨_, rfl, Weak.pk [0, 1, 2, 3, 4, 5, 6, 7, 8] ?_ ?_⟩
       rotate_left 2
       refine ⟨_, rfl, Weak.pk [0, 1, 2, 3, 4, 5, 6, 7, 8] ?_ ?_⟩
       rotate_left 2
       refine ⟨_, rfl, Weak.pk [0, 1, 2, 3, 4, 5, 6, 7, 8, 9] ?_ ?_⟩
       rotate_left 2
       refine ⟨_, rfl, Weak.pk [0, 1, 2, 3, 4, 5, 6, 7, 8] ?_ ?_⟩
       rotate_left 2
       refine ⟨_, rfl, Weak.pk [0, 1, 2, 3, 4, 5, 6, 7, 8] ?_ ?_⟩
       rotate_left 2
       refine ⟨_, rfl, Weak.pk [0, 1, 2, 3, 4, 5, 6, 7, 8] ?_ ?_⟩
       rotate_left 2
       refine ⟨_, rfl, Weak.pk [0, 1, 2, 3, 4, 5, 6, 7, 8] ?_ ?_⟩
       rotate_left 2
       refine ⟨_, rfl, Weak.pk [0, 1, 2, 3, 4, 5, 6, 7, 8, 9] ?_ ?_⟩
       rotate_left 2
       refine ⟨_, rfl, Weak.pk [0, 1, 2, 3, 4, 5, 6, 7, 8] ?_ ?_⟩
       rotate_left 2
       refine ⟨_, rfl, Weak.pk [0, 1, 2, 3, 4, 5, 6, 7, 8] ?_ ?_⟩
       rotate_left 2
       refine ⟨_, rfl, Weak.pk [0, 1, 2, 3, 4, 5, 6, 7, 8] ?_ ?_⟩
       rotate_left 2
       refine ⟨_, rfl, Weak.pk [0, 1, 2, 3, 4, 5, 6, 7, 8] ?_ ?_⟩
       rotate_left 2
       refine ⟨_, rfl, Weak.pk [0, 1, 2, 3, 4, 5, 6, 7, 8, 9] ?_ ?_⟩
       rotate_left 2
       refine ⟨_, rfl, Weak.pk [0, 1, 2, 3, 4, 5, 6, 7, 8] ?_ ?_⟩
       rotate_left 2
       refine ⟨_, rfl, Weak.pk [0, 1, 2, 3, 4, 5, 6, 7, 8] ?_ ?_⟩
       rotate_left 2
       refine ⟨_, rfl, Weak.pk [0, 1, 2, 3, 4, 5, 6, 7, 8] ?_ ?_⟩
       rotate_left 2
       refine ⟨_, rfl, Weak.pk [0, 1, 2, 3, 4, 5, 6, 7, 8] ?_ ?_⟩
       rotate_left 2
       refine ⟨_, rfl, Weak.pk [0, 1, 2, 3, 4, 5, 6, 7, 8, 9] ?_ ?_⟩
       rotate_left 2
       refine ⟨_, rfl, Weak.pk [0, 1, 2, 3, 4, 5, 6, 7, 8] ?_ ?_⟩
       rotate_left 2
       refine ⟨_, rfl, Weak.pk [0, 1, 2, 3, 4, 5, 6, 7, 8] ?_ ?_⟩
       rotate_left 2
       refine ⟨_, rfl, Weak.pk [0, 1, 2, 3, 4, 5, 6, 7, 8] ?_ ?_⟩
       rotate_left 2
       refine ⟨_, rfl, Weak.pk [0, 1, 2, 3, 4, 5, 6, 7, 8] ?_ ?_⟩
       rotate_left 2
       refine ⟨_, rfl, Weak.pk [0, 1, 2, 3, 4, 5, 6, 7, 8] ?_ ?_⟩
       rotate_left 2
       refine ⟨_, rfl, Weak.pk [0, 1, 2, 3, 4, 5, 6, 7, 8, 9] ?_ ?_⟩
       rotate_left 2
       refine ⟨_, rfl, Weak.pk [0, 1, 2, 3, 4, 5, 6, 7, 8] ?_ ?_⟩
       rotate_left 2
       refine ⟨_, rfl, Weak.pk [0, 1, 2, 3, 4, 5, 6, 7, 8] ?_ ?_⟩
       rotate_left 2
       refine ⟨_, rfl, Weak.pk [0, 1, 2, 3, 4, 5, 6, 7, 8] ?_ ?_⟩
       rotate_left 2
       refine ⟨_, rfl, Weak.pk [0, 1, 2, 3, 4, 5, 6, 7, 8] ?_ ?_⟩
       rotate_left 2
       refine ⟨_, rfl, Weak.pk [0, 1, 2, 3, 4, 5, 6, 7, 8] ?_ ?_⟩
       rotate_left 2
       refine ⟨_, rfl, Weak.pk [0, 1, 2, 3, 4, 5, 6, 7, 8, 9] ?_ ?_⟩
       rotate_left 2
       refine ⟨_, rfl, Weak.pk [0, 1, 2, 3, 4, 5, 6, 7, 8] ?_ ?_⟩
       rotate_left 2
       refine ⟨_, rfl, Weak.pk [0, 1, 2, 3, 4, 5, 6, 7, 8] ?_ ?_⟩
       rotate_left 2
       refine ⟨_, rfl, Weak.pk [0, 1, 2, 3, 4, 5, 6, 7, 8] ?_ ?_⟩
       rotate_left 2
       refine ⟨_, rfl, Weak.pk [0, 1, 2, 3, 4, 5, 6, 7, 8] ?_ ?_⟩
       rotate_left 2
       refine ⟨_, rfl, Weak.pk [0, 1, 2, 3, 4, 5, 6, 7, 8] ?_ ?_⟩
       rotate_left 2
       refine ⟨_, rfl, Weak.pk [0, 1, 2, 3, 4, 5, 6, 7, 8] ?_ ?_⟩
       rotate_left 2
       all_goals (first | rfl | (simp [LeG, LeC, LeV, ren, pickF, posOf]; done) | (simp [pickH, pickB, pickF, posOf, Cur.ren, ren, map_ren_rows, rows, IntS.cs]; done) | (simp [pickH, pickB, pickF, posOf, Cur.ren, ren, map_ren_rows]; done) | (simp [pickH, pickB, pickF, posOf, Cur.ren, ren, map_ren_rows] <;> rfl))
 · (repeat ((repeat1' (first | simp -implicitDefEqProofs -dsimp only [go_sem, h1] | simp -dsimp (disch := omega) only [wrap_i64])); repeat (with_reducible refine sideA ?_)))
   refine pick_call hB hc3 (by omega) 32 (by omega) rfl (fun vc4 c4 pvc4 hc4 => ?_)
   (repeat ((repeat1' (first | simp -implicitDefEqProofs -dsimp only [go_sem, Cur.ren, map_ren_rows] | simp -dsimp (disch := omega) only [wrap_i64])); repeat (with_reducible refine sideA ?_)))
   refine condT.split (fun h2 => ?_) (fun h2 => ?_)
   · (repeat ((repeat1' (first | simp -implicitDefEqProofs -dsimp only [go_sem, h2, Cur.ren] | simp -dsimp (disch := omega) only [wrap_i64])); repeat (with_reducible refine sideA ?_)))
     refine among_call hB hc4 (by omega) [0, 9, 99, 100] (by simp) (by simp) rfl rfl rfl (fun vc5 c5 pvc5 hc5 => ?_)
     (repeat ((repeat1' (first | simp -implicitDefEqProofs -dsimp only [go_sem, Cur.ren, map_ren_rows] | simp -dsimp (disch := omega) only [wrap_i64])); repeat (with_reducible refine sideA ?_)))
     refine among_call hB hc5 (by omega) [0, 1000] (by simp) (by simp) rfl rfl rfl (fun vc6 c6 pvc6 hc6 => ?_)
     (repeat ((repeat1' (first | simp -implicitDefEqProofs -dsimp only [go_sem, Cur.ren, map_ren_rows] | simp -dsimp (disch := omega) only [wrap_i64])); repeat (with_reducible refine sideA ?_)))
     refine among_call hB hc6 (by omega) [0, 1000001] (by simp) (by simp) rfl rfl rfl (fun vc7 c7 pvc7 hc7 => ?_)
     (repeat ((repeat1' (first | simp -implicitDefEqProofs -dsimp only [go_sem, Cur.ren, map_ren_rows] | simp -dsimp (disch := omega) only [wrap_i64])); repeat (with_reducible refine sideA ?_)))
     refine among_call hB hc7 (by omega) [0, 1001] (by simp) (by simp) rfl rfl rfl (fun vc8 c8 pvc8 hc8 => ?_)
     have hsn : rows Arrival.cs S ++ [.int .i64 vc5, .int .i64 vc6, .int .i64 0, .int .i64 vc7, .int .i64 vc8] = rows Arrival.cs (S ++ [⟨vc5, vc6, 0, vc7, vc8⟩]) := rows_snoc (cs := Arrival.cs) S ⟨vc5, vc6, 0, vc7, vc8⟩
     (repeat ((repeat1' (first | simp -implicitDefEqProofs -dsimp only [go_sem, Cur.ren, map_ren_rows, hsn] | simp -dsimp (disch := omega) only [wrap_i64])); repeat (with_reducible refine sideA ?_)))
     have hl1 : (S ++ [(⟨vc5, vc6, 0, vc7, vc8⟩ : Arrival)]).length = S.length + 1 := by simp
     rw [← hl1]
     exact arrs_fin rfl rfl (by omega) (lmonoQ hc8 (by omega))
   · (repeat ((repeat1' (first | simp -implicitDefEqProofs -dsimp only [go_sem, h2, Cur.ren] | simp -dsimp (disch := omega) only [wrap_i64])); repeat (with_reducible refine sideA ?_)))
     refine condT.split (fun h3 => ?_) (fun h3 => ?_)
     · (repeat ((repeat1' (first | simp -implicitDefEqProofs -dsimp only [go_sem, h3] | simp -dsimp (disch := omega) only [wrap_i64])); repeat (with_reducible refine sideA ?_)))
       refine LoopT.intro (fun x : List Arrival × Cur => x.1.length ≤ 9 ∧ x.2.le (k + 700 + 10 * (x.1.length : Int))) (fun x => ⟨[.ptr 0 0, .undef, .undef, .osl 1 0 x.1.length 5, .undef, .undef, .undef, .undef, .undef, .undef, .undef, .undef, .undef, .undef, .undef, .undef, .undef, .undef, .undef, .undef, .undef, .undef, .undef, .undef, .undef, .undef, .undef, .undef, .undef, .undef, .undef, .undef, .undef, .undef, .undef, .undef, .undef, .undef, .undef, .undef, .undef, .undef, .undef, .undef, .undef, .undef, .undef, .undef, .undef, .undef, .undef, .undef, .undef, .undef, .undef, .undef, .undef, .undef, .undef, .undef, .undef, .undef, .undef, .undef, .undef, .undef, .undef, .undef, .undef, .undef, .undef, .undef, .undef, .undef, .undef, .undef, .undef, .undef, .undef, .undef, .undef, .undef, .undef, .undef, .undef, .undef, .undef, .undef, .undef, .undef, .undef, .undef, .undef, .undef, .undef, .undef, .undef, .undef, .undef, .undef], [some (x.2.cs B), some (rows Arrival.cs x.1)], 1⟩) (fun x => 9 - x.1.length) (S, c4) ⟨by simp only []; omega, lmonoQ hc4 (by simp only []; omega)⟩ ?_ (fun x hx => ?_)
       · refine Weak.cut (2) (by simp) (by simp) ?_ ?_
         · simp [LeC, LeV, ren, cutF]
         · simp [cutH, cutB, Cur.ren, ren, map_ren_rows]
       obtain ⟨M, c5⟩ := x
       obtain ⟨z0, hc5⟩ := hx
       dsimp only at z0 hc5
       (repeat ((repeat1' (first | simp -implicitDefEqProofs -dsimp only [go_sem] | simp -dsimp (disch := omega) only [wrap_i64])); repeat (with_reducible refine sideA ?_)))
       refine pick_call hB hc5 (by omega) 2 (by omega) rfl (fun vc6 c6 pvc6 hc6 => ?_)
       (repeat ((repeat1' (first | simp -implicitDefEqProofs -dsimp only [go_sem, Cur.ren, map_ren_rows] | simp -dsimp (disch := omega) only [wrap_i64])); repeat (with_reducible refine sideA ?_)))
       refine condT.split (fun h4 => ?_) (fun h4 => ?_)
       · have hM : M.length ≤ 8 := by have := of_decide_eq_true h4; omega
         have hsn : rows Arrival.cs M ++ [.int .i64 (70 + (M.length : Int)), .int .i64 5, .int .i64 5, .int .i64 400, .int .i64 0] = rows Arrival.cs (M ++ [⟨70 + (M.length : Int), 5, 5, 400, 0⟩]) := rows_snoc (cs := Arrival.cs) M ⟨70 + (M.length : Int), 5, 5, 400, 0⟩
         (repeat ((repeat1' (first | simp -implicitDefEqProofs -dsimp only [go_sem, h4, hsn, Cur.ren] | simp -dsimp (disch := omega) only [wrap_i64])); repeat (with_reducible refine sideA ?_)))
         refine ⟨(M ++ [⟨70 + (M.length : Int), 5, 5, 400, 0⟩], c6), ⟨by simp only [List.length_append, List.length_cons, List.length_nil]; omega, lmonoQ hc6 (by simp only [List.length_append, List.length_cons, List.length_nil]; omega)⟩, ?_, by simp only [List.length_append, List.length_cons, List.length_nil]; omega⟩
         refine Weak.cut (2) (by simp) (by simp) ?_ ?_
         · simp [LeC, LeV, ren, cutF]
         · simp [cutH, cutB, cutF, Cur.ren, ren, map_ren_rows]
       · (repeat ((repeat1' (first | simp -implicitDefEqProofs -dsimp only [go_sem, h4] | simp -dsimp (disch := omega) only [wrap_i64])); repeat (with_reducible refine sideA ?_)))
         exact arrs_fin rfl rfl (by omega) (lmonoQ hc6 (by omega))
     · (repeat ((repeat1' (first | simp -implicitDefEqProofs -dsimp only [go_sem, h3] | simp -dsimp (disch := omega) only [wrap_i64])); repeat (with_reducible refine sideA ?_)))
       exact arrs_fin rfl rfl (by omega) (lmonoQ hc4 (by omega))
def dEventsP (r : V) (hout : Hp) : Prop := ∃ (L : List Arrival) (s l : Int), L.length ≤ 20 ∧ r = .tup [Arrival.sl L, .int .i64 s, .int .i64 l] ∧ hout = []
def dGridP (r : V) (hout : Hp) : Prop := ∃ (L : List Arrival) (s : Int), L.length ≤ 20 ∧ r = .tup [Arrival.sl L, .int .i64 s] ∧ hout = []
theorem fin_arr2 {h : Hp} {i : Nat} {L : List Arrival} {a : V} (hi : h[i]? = some (some (rows Arrival.cs L))) (ha : ∀ f d, ren f (d + 1) a = a) : WeakR 0 (.tup [.osl i 0 L.length 5, a]) h (.tup [Arrival.sl L, a]) [] := by
 refine WeakR.pick [] (by decide) (fun j hj => by omega) (.inl ?_) rfl
 simp [ren, pickF, posOf, frzR, hi, take_rows, map_ren_rows, ha]
theorem fin_arr3 {h : Hp} {i : Nat} {L : List Arrival} {a b : Int} (hi : h[i]? = some (some (rows Arrival.cs L))) : WeakR 0 (.tup [.osl i 0 L.length 5, .int .i64 a, .int .i64 b]) h (.tup [Arrival.sl L, .int .i64 a, .int .i64 b]) [] := by
 refine WeakR.pick [] (by decide) (fun j hj => by omega) (.inl ?_) rfl
 simp [ren, pickF, posOf, frzR, hi, take_rows, map_ren_rows]
theorem drawEventsFound_ok {B : List Int} (hB : CB B) : CtrP Try.prog 6 [ByteS.sl B] [] dEventsP := by
 obtain ⟨c, hcd⟩ : ∃ c : Cur, c = ⟨0, 0⟩ := ⟨_, rfl⟩
 have hc : c.le 0 := by rw [hcd]; exact ⟨Int.le_refl _, Int.le_refl _⟩
 have hcc : c.cs B = [ByteS.sl B, .int .i64 0, .int .u64 0] := by rw [hcd]; rfl
 refine CtrP.intro Try.mixed Try.func6 rfl Try.okF6 ?_
 simp -implicitDefEqProofs -dsimp only [go_sem, Try.ntmps6, Try.results6]
 (repeat ((repeat1' (first | simp -implicitDefEqProofs -dsimp only [go_sem, ByteS.sl] | simp -dsimp (disch := omega) only [wrap_i64])); repeat (with_reducible refine sideA ?_)))
 rw [← ByteS.sl, ← hcc]
 refine callS.rel [0] (arrivals_ok hB (by omega) hc) (by decide) ⟨leO, trivial⟩ (lendCur rfl) rfl (fun r hout hΦ => ?_)
 obtain ⟨L, c1, hL, hc1, rfl, rfl⟩ := hΦ
 refine ⟨⟨⟨rfl, rfl⟩, trivial⟩, ?_⟩
 (repeat ((repeat1' (first | simp -implicitDefEqProofs -dsimp only [go_sem, Cur.ren, map_ren_rows] | simp -dsimp (disch := omega) only [wrap_i64])); repeat (with_reducible refine sideA ?_)))
 refine callS.rel [0] (gridStep_ok hB (by omega) hc1) (by decide) ⟨leO, trivial⟩ (lendCur rfl) rfl (fun r hout hΦ => ?_)
 obtain ⟨s, c2, hc2, rfl, rfl⟩ := hΦ
 refine ⟨⟨⟨rfl, rfl⟩, trivial⟩, ?_⟩
 (repeat ((repeat1' (first | simp -implicitDefEqProofs -dsimp only [go_sem, Cur.ren, map_ren_rows] | simp -dsimp (disch := omega) only [wrap_i64])); repeat (with_reducible refine sideA ?_)))
 refine among_call hB hc2 (by omega) [1, 2, 2, 3, 8, 0, 9] (by simp) (by simp) rfl rfl rfl (fun vc3 c3 pvc3 hc3 => ?_)
 (repeat ((repeat1' (first | simp -implicitDefEqProofs -dsimp only [go_sem, Cur.ren, map_ren_rows] | simp -dsimp (disch := omega) only [wrap_i64])); repeat (with_reducible refine sideA ?_)))
 exact ⟨_, _, ⟨L, s, vc3, hL, rfl, rfl⟩, fin_arr3 rfl⟩
theorem drawBestOnGrid_ok {B : List Int} (hB : CB B) : CtrP Try.prog 12 [ByteS.sl B] [] dGridP := by
 obtain ⟨c, hcd⟩ : ∃ c : Cur, c = ⟨0, 0⟩ := ⟨_, rfl⟩
 have hc : c.le 0 := by rw [hcd]; exact ⟨Int.le_refl _, Int.le_refl _⟩
 have hcc : c.cs B = [ByteS.sl B, .int .i64 0, .int .u64 0] := by rw [hcd]; rfl
 refine CtrP.intro Try.mixed Try.func12 rfl Try.okF12 ?_
 simp -implicitDefEqProofs -dsimp only [go_sem, Try.ntmps12, Try.results12]
 (repeat ((repeat1' (first | simp -implicitDefEqProofs -dsimp only [go_sem, ByteS.sl] | simp -dsimp (disch := omega) only [wrap_i64])); repeat (with_reducible refine sideA ?_)))
 rw [← ByteS.sl, ← hcc]
 refine callS.rel [0] (arrivals_ok hB (by omega) hc) (by decide) ⟨leO, trivial⟩ (lendCur rfl) rfl (fun r hout hΦ => ?_)
 obtain ⟨L, c1, hL, hc1, rfl, rfl⟩ := hΦ
 refine ⟨⟨⟨rfl, rfl⟩, trivial⟩, ?_⟩
 (repeat ((repeat1' (first | simp -implicitDefEqProofs -dsimp only [go_sem, Cur.ren, map_ren_rows] | simp -dsimp (disch := omega) only [wrap_i64])); repeat (with_reducible refine sideA ?_)))
 refine callS.rel [0] (gridStep_ok hB (by omega) hc1) (by decide) ⟨leO, trivial⟩ (lendCur rfl) rfl (fun r hout hΦ => ?_)
 obtain ⟨s, c2, hc2, rfl, rfl⟩ := hΦ
 refine ⟨⟨⟨rfl, rfl⟩, trivial⟩, ?_⟩
 (repeat ((repeat1' (first | simp -implicitDefEqProofs -dsimp only [go_sem, Cur.ren, map_ren_rows] | simp -dsimp (disch := omega) only [wrap_i64])); repeat (with_reducible refine sideA ?_)))
 exact ⟨_, _, ⟨L, s, hL, rfl, rfl⟩, fin_arr2 rfl (fun _ _ => rfl)⟩
theorem drawMostVotesAt_ok {B : List Int} (hB : CB B) : CtrP Try.prog 15 [ByteS.sl B] [] dEventsP := by
 obtain ⟨c, hcd⟩ : ∃ c : Cur, c = ⟨0, 0⟩ := ⟨_, rfl⟩
 have hc : c.le 0 := by rw [hcd]; exact ⟨Int.le_refl _, Int.le_refl _⟩
 have hcc : c.cs B = [ByteS.sl B, .int .i64 0, .int .u64 0] := by rw [hcd]; rfl
 refine CtrP.intro Try.mixed Try.func15 rfl Try.okF15 ?_
 simp -implicitDefEqProofs -dsimp only [go_sem, Try.ntmps15, Try.results15]
 (repeat ((repeat1' (first | simp -implicitDefEqProofs -dsimp only [go_sem, ByteS.sl] | simp -dsimp (disch := omega) only [wrap_i64])); repeat (with_reducible refine sideA ?_)))
 rw [← ByteS.sl, ← hcc]
 refine callS.rel [0] (arrivals_ok hB (by omega) hc) (by decide) ⟨leO, trivial⟩ (lendCur rfl) rfl (fun r hout hΦ => ?_)
 obtain ⟨L, c1, hL, hc1, rfl, rfl⟩ := hΦ
 refine ⟨⟨⟨rfl, rfl⟩, trivial⟩, ?_⟩
 (repeat ((repeat1' (first | simp -implicitDefEqProofs -dsimp only [go_sem, Cur.ren, map_ren_rows] | simp -dsimp (disch := omega) only [wrap_i64])); repeat (with_reducible refine sideA ?_)))
 refine callS.rel [0] (quakeOrigin_ok hB (by omega) hc1) (by decide) ⟨leO, trivial⟩ (lendCur rfl) rfl (fun r hout hΦ => ?_)
 obtain ⟨o, c2, ho, hc2, rfl, rfl⟩ := hΦ
 refine ⟨⟨⟨rfl, rfl⟩, trivial⟩, ?_⟩
 (repeat ((repeat1' (first | simp -implicitDefEqProofs -dsimp only [go_sem, Cur.ren, map_ren_rows, Origin.v] | simp -dsimp (disch := omega) only [wrap_i64])); repeat (with_reducible refine sideA ?_)))
 exact ⟨_, _, ⟨L, o.X, o.Y, hL, rfl, rfl⟩, fin_arr3 rfl⟩
end Go.Proofs
end
section
set_option maxRecDepth 100000
set_option maxHeartbeats 4000000
namespace Go.Proofs
open Go.Lv
theorem gridR_eq (L : List Arrival) (step : Int) (hl : L.length ≤ 100) : ∃ (o : Origin) (n : Int) (b : Bool), gridR L step = [o.v, .int .i64 n, .bool b] ∧ (b = true → arrsB L = true ∧ originB o = true ∧ ((L.filter fun a => fitB a o).length : Int) = n) := by
 by_cases h : arrsB L = true ∧ stepsB step = true ∧ 0 < (bestA L step).2
 · have hs := inB'_iff.1 h.2.1
   obtain ⟨q1, _⟩ := bestA_votes hs h.2.2
   exact ⟨(bestA L step).1, (bestA L step).2, true, by rw [gridR_yes h], fun _ => ⟨h.1, best_origin hs h.2.2, q1.symm⟩⟩
 · exact ⟨⟨0, 0, 0⟩, 0, false, by rw [gridR_no h]; rfl, fun h => by cases h⟩
theorem mostR_eq (L : List Arrival) (x y : Int) : ∃ (m t : Int) (b : Bool), mostR L x y = [.int .i64 m, .int .i64 t, .bool b] := by
 unfold mostR
 split <;> exact ⟨_, _, _, rfl⟩
theorem fnEventsFoundLaw_ok (L : List Int) (hL : lstR ByteS.ok L) : Ctr Try.prog 3 [ByteS.sl L] [] (.bool true) [] := by
 have hB : CB L := hL
 refine Ctr.intro Try.mixed Try.func3 rfl Try.okF3 ?_
 simp -implicitDefEqProofs -dsimp only [go_sem, Try.ntmps3, Try.results3]
 (repeat ((repeat1' (first | simp -implicitDefEqProofs -dsimp only [go_sem] | simp -dsimp (disch := omega) only [wrap_i64])); repeat (with_reducible refine sideA ?_)))
 (first | refine callT.at (vBig_ok L) ⟨leA, trivial⟩ ?_ | refine callS.at (vBig_ok L) ⟨leA, trivial⟩ ?_)
 (repeat ((repeat1' (first | simp -implicitDefEqProofs -dsimp only [go_sem] | simp -dsimp (disch := omega) only [wrap_i64])); repeat (with_reducible refine sideA ?_)))
 refine condT.split (fun h1 => ?_) (fun h1 => ?_) <;> (repeat ((repeat1' (first | simp -implicitDefEqProofs -dsimp only [go_sem, h1] | simp -dsimp (disch := omega) only [wrap_i64])); repeat (with_reducible refine sideA ?_)))
 · exact WeakR.drop' rfl (by rfl)
 refine callS.rel [] (drawEventsFound_ok hB) (by decide) ⟨leO, trivial⟩ rfl rfl (fun r hout hΦ => ?_)
 obtain ⟨A, st, le, hA, rfl, rfl⟩ := hΦ
 refine ⟨trivial, ?_⟩
 (repeat ((repeat1' (first | simp -implicitDefEqProofs -dsimp only [go_sem] | simp -dsimp (disch := omega) only [wrap_i64])); repeat (with_reducible refine sideA ?_)))
 have ie := (iEventsFound_ok A st le (by omega)).weak (frzN _)
 have se := (sEventsFound_ok A st le (by omega)).weak (frzO _)
 cases hR : foundR A st le with
 | none =>
   rw [hR] at ie se
   simp only [frzV, Option.getD_none, Option.isSome_none, List.length_nil] at ie se
   (first | refine callT.at (ie) ⟨leA, leA, leA, trivial⟩ ?_ | refine callS.at (ie) ⟨leA, leA, leA, trivial⟩ ?_)
   (repeat ((repeat1' (first | simp -implicitDefEqProofs -dsimp only [go_sem] | simp -dsimp (disch := omega) only [wrap_i64])); repeat (with_reducible refine sideA ?_)))
   (first | refine callT.at (se) ⟨leA, leA, leA, trivial⟩ ?_ | refine callS.at (se) ⟨leA, leA, leA, trivial⟩ ?_)
   (repeat ((repeat1' (first | simp -implicitDefEqProofs -dsimp only [go_sem] | simp -dsimp (disch := omega) only [wrap_i64])); repeat (with_reducible refine sideA ?_)))
   have hv0 := vOrigins_ok [] (by decide)
   (first | refine callT.at (hv0) ⟨leA, leA, trivial⟩ ?_ | refine callS.at (hv0) ⟨leA, leA, trivial⟩ ?_)
   (repeat ((repeat1' (first | simp -implicitDefEqProofs -dsimp only [go_sem] | simp -dsimp (disch := omega) only [wrap_i64])); repeat (with_reducible refine sideA ?_)))
   refine callS.rel [] (drawBestOnGrid_ok hB) (by decide) ⟨leO, trivial⟩ rfl rfl (fun r hout hΦ => ?_)
   obtain ⟨X, k, hX, rfl, rfl⟩ := hΦ
   refine ⟨trivial, ?_⟩
   (repeat ((repeat1' (first | simp -implicitDefEqProofs -dsimp only [go_sem] | simp -dsimp (disch := omega) only [wrap_i64])); repeat (with_reducible refine sideA ?_)))
   have ig := iBestOnGrid_ok X k (by omega)
   have sg := sBestOnGrid_ok X k (by omega)
   obtain ⟨bo, bn, bb, eg, fg⟩ := gridR_eq X k (by omega)
   rw [eg] at ig sg
   (first | refine callT.at (ig) ⟨leA, leA, trivial⟩ ?_ | refine callS.at (ig) ⟨leA, leA, trivial⟩ ?_)
   (repeat ((repeat1' (first | simp -implicitDefEqProofs -dsimp only [go_sem, Origin.v] | simp -dsimp (disch := omega) only [wrap_i64])); repeat (with_reducible refine sideA ?_)))
   (first | refine callT.at (sg) ⟨leA, leA, trivial⟩ ?_ | refine callS.at (sg) ⟨leA, leA, trivial⟩ ?_)
   (repeat ((repeat1' (first | simp -implicitDefEqProofs -dsimp only [go_sem, Origin.v] | simp -dsimp (disch := omega) only [wrap_i64])); repeat (with_reducible refine sideA ?_)))
   cases bb with
   | false =>
     (repeat ((repeat1' (first | simp -implicitDefEqProofs -dsimp only [go_sem] | simp -dsimp (disch := omega) only [wrap_i64])); repeat (with_reducible refine sideA ?_)))
     refine callS.rel [] (drawMostVotesAt_ok hB) (by decide) ⟨leO, trivial⟩ rfl rfl (fun r hout hΦ => ?_)
     obtain ⟨Y, ya, yb, hY, rfl, rfl⟩ := hΦ
     refine ⟨trivial, ?_⟩
     (repeat ((repeat1' (first | simp -implicitDefEqProofs -dsimp only [go_sem] | simp -dsimp (disch := omega) only [wrap_i64])); repeat (with_reducible refine sideA ?_)))
     have im := iMostVotesAt_ok Y ya yb (by omega)
     have sm := sMostVotesAt_ok Y ya yb (by omega)
     obtain ⟨mm, mt, mb, em⟩ := mostR_eq Y ya yb
     rw [em] at im sm
     (first | refine callT.at (im) ⟨leA, leA, leA, trivial⟩ ?_ | refine callS.at (im) ⟨leA, leA, leA, trivial⟩ ?_)
     (repeat ((repeat1' (first | simp -implicitDefEqProofs -dsimp only [go_sem] | simp -dsimp (disch := omega) only [wrap_i64])); repeat (with_reducible refine sideA ?_)))
     (first | refine callT.at (sm) ⟨leA, leA, leA, trivial⟩ ?_ | refine callS.at (sm) ⟨leA, leA, leA, trivial⟩ ?_)
     (repeat ((repeat1' (first | simp -implicitDefEqProofs -dsimp only [go_sem] | simp -dsimp (disch := omega) only [wrap_i64])); repeat (with_reducible refine sideA ?_)))
     exact WeakR.drop' (by simp) (by rfl)
   | true =>
     obtain ⟨fa, fo, fn⟩ := fg rfl
     have iv := iVotesFor_ok X bo fa fo
     rw [fn] at iv
     (repeat ((repeat1' (first | simp -implicitDefEqProofs -dsimp only [go_sem] | simp -dsimp (disch := omega) only [wrap_i64])); repeat (with_reducible refine sideA ?_)))
     (first | refine callT.at (iv) ⟨leA, leA, trivial⟩ ?_ | refine callS.at (iv) ⟨leA, leA, trivial⟩ ?_)
     (repeat ((repeat1' (first | simp -implicitDefEqProofs -dsimp only [go_sem] | simp -dsimp (disch := omega) only [wrap_i64])); repeat (with_reducible refine sideA ?_)))
     refine callS.rel [] (drawMostVotesAt_ok hB) (by decide) ⟨leO, trivial⟩ rfl rfl (fun r hout hΦ => ?_)
     obtain ⟨Y, ya, yb, hY, rfl, rfl⟩ := hΦ
     refine ⟨trivial, ?_⟩
     (repeat ((repeat1' (first | simp -implicitDefEqProofs -dsimp only [go_sem] | simp -dsimp (disch := omega) only [wrap_i64])); repeat (with_reducible refine sideA ?_)))
     have im := iMostVotesAt_ok Y ya yb (by omega)
     have sm := sMostVotesAt_ok Y ya yb (by omega)
     obtain ⟨mm, mt, mb, em⟩ := mostR_eq Y ya yb
     rw [em] at im sm
     (first | refine callT.at (im) ⟨leA, leA, leA, trivial⟩ ?_ | refine callS.at (im) ⟨leA, leA, leA, trivial⟩ ?_)
     (repeat ((repeat1' (first | simp -implicitDefEqProofs -dsimp only [go_sem] | simp -dsimp (disch := omega) only [wrap_i64])); repeat (with_reducible refine sideA ?_)))
     (first | refine callT.at (sm) ⟨leA, leA, leA, trivial⟩ ?_ | refine callS.at (sm) ⟨leA, leA, leA, trivial⟩ ?_)
     (repeat ((repeat1' (first | simp -implicitDefEqProofs -dsimp only [go_sem] | simp -dsimp (disch := omega) only [wrap_i64])); repeat (with_reducible refine sideA ?_)))
     exact WeakR.drop' (by simp) (by rfl)
 | some E =>
   obtain ⟨hAB, hsB, hlB, hE⟩ : arrsB A = true ∧ stepsB st = true ∧ inB' le 1 8 = true ∧ E = foundA A st le := by
     unfold foundR at hR
     split at hR
     · rename_i h
       exact ⟨h.1, h.2.1, h.2.2, (Option.some.inj hR).symm⟩
     · cases hR
   have hs := inB'_iff.1 hsB
   have hle := inB'_iff.1 hlB
   have hEl : E.length ≤ A.length := by
     rw [hE]
     have := found_len hs hle.1 (A.length + 1) (A, [])
     simpa [foundA] using this
   have hat : ∀ i (hi : i < E.length), E[i] = (bestA (leftA st A i) st).1 ∧ le ≤ (bestA (leftA st A i) st).2 := by
     subst hE
     exact fun i hi => found_at hi
   have hend := found_end (L := A) (step := st) (least := le) hs hle.1
   rw [← hE] at hend
   have hleft := leftA_ok (step := st) hAB
   have hve := vOrigins_ok E (by omega)
   rw [hR] at ie se
   simp only [frzV, Option.getD_some, Option.isSome_some] at ie se
   (first | refine callT.at (ie) ⟨leA, leA, leA, trivial⟩ ?_ | refine callS.at (ie) ⟨leA, leA, leA, trivial⟩ ?_)
   (repeat ((repeat1' (first | simp -implicitDefEqProofs -dsimp only [go_sem] | simp -dsimp (disch := omega) only [wrap_i64])); repeat (with_reducible refine sideA ?_)))
   (first | refine callT.at (se) ⟨leA, leA, leA, trivial⟩ ?_ | refine callS.at (se) ⟨leA, leA, leA, trivial⟩ ?_)
   (repeat ((repeat1' (first | simp -implicitDefEqProofs -dsimp only [go_sem] | simp -dsimp (disch := omega) only [wrap_i64])); repeat (with_reducible refine sideA ?_)))
   (first | refine callT.at (hve) ⟨leA, leA, trivial⟩ ?_ | refine callS.at (hve) ⟨leA, leA, trivial⟩ ?_)
   (repeat ((repeat1' (first | simp -implicitDefEqProofs -dsimp only [go_sem] | simp -dsimp (disch := omega) only [wrap_i64])); repeat (with_reducible refine sideA ?_)))
   refine LoopT.intro (fun i : Nat => i ≤ E.length) (fun i => ⟨[ByteS.sl L, .undef, .undef, .undef, .int .i64 st, .int .i64 le, Origin.sl E, .undef, .undef, .undef, Arrival.sl (leftA st A i), .int .i64 i, .undef, .undef, .undef, .undef, .undef, .undef, .undef, .undef, .undef, .undef, .undef, .undef, .undef, .undef, .undef, .undef, .undef, .undef, .undef, .undef, .undef, .undef, .undef, .undef, .undef, .undef, .undef, .undef, .undef, .undef, .undef, .undef, .undef, .undef, .undef, .undef, .undef, .undef, .undef, .undef, .undef, .undef, .undef, .undef, .undef, .undef, .undef, .undef, .undef, .undef, .undef, .undef, .undef, .undef, .undef, .undef, .undef, .undef, .undef, .undef, .undef, .undef, .undef, .undef, .undef, .undef, .undef, .undef, .undef, .undef, .undef, .undef, .undef, .undef, .undef, .undef, .undef, .undef, .undef, .undef, .undef, .undef, .undef, .undef, .undef, .undef, .undef, .undef, .undef, .undef, .undef, .undef, .undef, .undef, .undef, .undef, .undef, .undef, .undef, .undef, .undef, .undef, .undef, .undef, .undef, .undef, .undef, .undef, .undef, .undef, .undef, .undef, .undef, .undef, .undef, .undef, .undef, .undef, .undef, .undef, .undef, .undef, .undef, .undef, .undef, .undef, .undef, .undef, .undef, .undef, .undef, .undef, .undef, .undef, .undef, .undef, .undef, .undef, .undef, .undef, .undef, .undef, .undef, .undef, .undef, .undef, .undef, .undef, .undef, .undef, .undef, .undef, .undef, .undef, .undef, .undef, .undef, .undef, .undef, .undef, .undef, .undef, .undef, .undef, .undef, .undef, .undef, .undef, .undef, .undef, .undef, .undef, .undef, .undef, .undef, .undef, .undef, .undef, .undef, .undef, .undef, .undef, .undef, .undef, .undef, .undef, .undef, .undef, .undef, .undef, .undef, .undef, .undef, .undef, .undef, .undef, .undef, .undef, .undef, .undef], [], 0⟩) (fun i => E.length - i) 0 (Nat.zero_le _) ?_ (fun i hi => ?_)
   · refine Weak.cut (0) (by simp) (by simp) ?_ ?_
     · simp [LeC, LeV, ren, cutF, Origin.sl, Arrival.sl, leftA]
     · rfl
   obtain ⟨hlB1, hlL⟩ := hleft i
   have ig := iBestOnGrid_ok (leftA st A i) st (by omega)
   simp -implicitDefEqProofs -dsimp only [go_sem]
   refine condT.split (fun g1 => ?_) (fun g1 => ?_)
   · have hi' : i < E.length := by simpa using g1
     have hr := rows_at Origin.csl hi'
     obtain ⟨e1, e2⟩ := hat i hi'
     have hpos : 0 < (bestA (leftA st A i) st).2 := by omega
     have hvr := votes_rest (L := leftA st A i) hs hpos
     have hbo := best_origin (L := leftA st A i) hs hpos
     have hns : leftA st A (i + 1) = restOf (leftA st A i) (bestA (leftA st A i) st).1 := rfl
     have hRl := (hleft (i + 1)).2
     rw [hns] at hRl
     have hcv := votesN_le (leftA st A i) (bestA (leftA st A i) st).1.X (bestA (leftA st A i) st).1.Y (bestA (leftA st A i) st).1.Tick
     rw [gridR_yes ⟨hlB1, hsB, hpos⟩] at ig
     rw [e1] at hr
     have iw := iWithoutVoters_ok (leftA st A i) (bestA (leftA st A i) st).1 hlB1 hbo
     obtain ⟨nx, hnx⟩ : ∃ x, x = leftA st A (i + 1) := ⟨_, rfl⟩
     rw [← hns, ← hnx] at hvr hRl iw
     generalize (bestA (leftA st A i) st).1 = bo at hr ig hbo iw
     generalize (bestA (leftA st A i) st).2 = bn at ig hpos hvr e2
     have hlt : decide (bn < le) = false := decide_eq_false (by omega)
     have hw : IntKind.i64.wrap ((nx.length : Int) + bn) = ((leftA st A i).length : Int) := by rw [hvr, wrap_i64 (by omega) (by omega)]
     (repeat ((repeat1' (first | simp -implicitDefEqProofs -dsimp only [go_sem, g1] | simp -dsimp (disch := omega) only [wrap_i64])); repeat (with_reducible refine sideA ?_)))
     (first | refine callT.at (ig) ⟨leA, leA, trivial⟩ ?_ | refine callS.at (ig) ⟨leA, leA, trivial⟩ ?_)
     (repeat ((repeat1' (first | simp -implicitDefEqProofs -dsimp only [go_sem, Origin.v, hr, Origin.cs, hlt] | simp -dsimp (disch := omega) only [wrap_i64])); repeat (with_reducible refine sideA ?_)))
     (first | refine callT.at (iw) ⟨leA, leA, trivial⟩ ?_ | refine callS.at (iw) ⟨leA, leA, trivial⟩ ?_)
     (repeat ((repeat1' (first | simp -implicitDefEqProofs -dsimp only [go_sem, hw] | simp -dsimp (disch := omega) only [wrap_i64])); repeat (with_reducible refine sideA ?_)))
     refine ⟨i + 1, hi', ?_, by omega⟩
     refine Weak.cut (0) (by simp) (by simp) ?_ ?_
     · simp [LeC, LeV, ren, cutF, Arrival.sl, hnx]
     · rfl
   · have hi' : i = E.length := by simp at g1; omega
     subst hi'
     (repeat ((repeat1' (first | simp -implicitDefEqProofs -dsimp only [go_sem, g1] | simp -dsimp (disch := omega) only [wrap_i64])); repeat (with_reducible refine sideA ?_)))
     by_cases hp : 0 < (bestA (leftA st A E.length) st).2
     · rw [gridR_yes ⟨hlB1, hsB, hp⟩] at ig
       have hge : decide (le ≤ (bestA (leftA st A E.length) st).2) = false := decide_eq_false (by omega)
       (first | refine callT.at (ig) ⟨leA, leA, trivial⟩ ?_ | refine callS.at (ig) ⟨leA, leA, trivial⟩ ?_)
       (repeat ((repeat1' (first | simp -implicitDefEqProofs -dsimp only [go_sem, Origin.v, hge] | simp -dsimp (disch := omega) only [wrap_i64])); repeat (with_reducible refine sideA ?_)))
       refine callS.rel [] (drawBestOnGrid_ok hB) (by decide) ⟨leO, trivial⟩ rfl rfl (fun r hout hΦ => ?_)
       obtain ⟨X, k, hX, rfl, rfl⟩ := hΦ
       refine ⟨trivial, ?_⟩
       (repeat ((repeat1' (first | simp -implicitDefEqProofs -dsimp only [go_sem] | simp -dsimp (disch := omega) only [wrap_i64])); repeat (with_reducible refine sideA ?_)))
       have ig := iBestOnGrid_ok X k (by omega)
       have sg := sBestOnGrid_ok X k (by omega)
       obtain ⟨bo, bn, bb, eg, fg⟩ := gridR_eq X k (by omega)
       rw [eg] at ig sg
       (first | refine callT.at (ig) ⟨leA, leA, trivial⟩ ?_ | refine callS.at (ig) ⟨leA, leA, trivial⟩ ?_)
       (repeat ((repeat1' (first | simp -implicitDefEqProofs -dsimp only [go_sem, Origin.v] | simp -dsimp (disch := omega) only [wrap_i64])); repeat (with_reducible refine sideA ?_)))
       (first | refine callT.at (sg) ⟨leA, leA, trivial⟩ ?_ | refine callS.at (sg) ⟨leA, leA, trivial⟩ ?_)
       (repeat ((repeat1' (first | simp -implicitDefEqProofs -dsimp only [go_sem, Origin.v] | simp -dsimp (disch := omega) only [wrap_i64])); repeat (with_reducible refine sideA ?_)))
       cases bb with
       | false =>
         (repeat ((repeat1' (first | simp -implicitDefEqProofs -dsimp only [go_sem] | simp -dsimp (disch := omega) only [wrap_i64])); repeat (with_reducible refine sideA ?_)))
         refine callS.rel [] (drawMostVotesAt_ok hB) (by decide) ⟨leO, trivial⟩ rfl rfl (fun r hout hΦ => ?_)
         obtain ⟨Y, ya, yb, hY, rfl, rfl⟩ := hΦ
         refine ⟨trivial, ?_⟩
         (repeat ((repeat1' (first | simp -implicitDefEqProofs -dsimp only [go_sem] | simp -dsimp (disch := omega) only [wrap_i64])); repeat (with_reducible refine sideA ?_)))
         have im := iMostVotesAt_ok Y ya yb (by omega)
         have sm := sMostVotesAt_ok Y ya yb (by omega)
         obtain ⟨mm, mt, mb, em⟩ := mostR_eq Y ya yb
         rw [em] at im sm
         (first | refine callT.at (im) ⟨leA, leA, leA, trivial⟩ ?_ | refine callS.at (im) ⟨leA, leA, leA, trivial⟩ ?_)
         (repeat ((repeat1' (first | simp -implicitDefEqProofs -dsimp only [go_sem] | simp -dsimp (disch := omega) only [wrap_i64])); repeat (with_reducible refine sideA ?_)))
         (first | refine callT.at (sm) ⟨leA, leA, leA, trivial⟩ ?_ | refine callS.at (sm) ⟨leA, leA, leA, trivial⟩ ?_)
         (repeat ((repeat1' (first | simp -implicitDefEqProofs -dsimp only [go_sem] | simp -dsimp (disch := omega) only [wrap_i64])); repeat (with_reducible refine sideA ?_)))
         exact WeakR.drop' (by simp) (by rfl)
       | true =>
         obtain ⟨fa, fo, fn⟩ := fg rfl
         have iv := iVotesFor_ok X bo fa fo
         rw [fn] at iv
         (repeat ((repeat1' (first | simp -implicitDefEqProofs -dsimp only [go_sem] | simp -dsimp (disch := omega) only [wrap_i64])); repeat (with_reducible refine sideA ?_)))
         (first | refine callT.at (iv) ⟨leA, leA, trivial⟩ ?_ | refine callS.at (iv) ⟨leA, leA, trivial⟩ ?_)
         (repeat ((repeat1' (first | simp -implicitDefEqProofs -dsimp only [go_sem] | simp -dsimp (disch := omega) only [wrap_i64])); repeat (with_reducible refine sideA ?_)))
         refine callS.rel [] (drawMostVotesAt_ok hB) (by decide) ⟨leO, trivial⟩ rfl rfl (fun r hout hΦ => ?_)
         obtain ⟨Y, ya, yb, hY, rfl, rfl⟩ := hΦ
         refine ⟨trivial, ?_⟩
         (repeat ((repeat1' (first | simp -implicitDefEqProofs -dsimp only [go_sem] | simp -dsimp (disch := omega) only [wrap_i64])); repeat (with_reducible refine sideA ?_)))
         have im := iMostVotesAt_ok Y ya yb (by omega)
         have sm := sMostVotesAt_ok Y ya yb (by omega)
         obtain ⟨mm, mt, mb, em⟩ := mostR_eq Y ya yb
         rw [em] at im sm
         (first | refine callT.at (im) ⟨leA, leA, leA, trivial⟩ ?_ | refine callS.at (im) ⟨leA, leA, leA, trivial⟩ ?_)
         (repeat ((repeat1' (first | simp -implicitDefEqProofs -dsimp only [go_sem] | simp -dsimp (disch := omega) only [wrap_i64])); repeat (with_reducible refine sideA ?_)))
         (first | refine callT.at (sm) ⟨leA, leA, leA, trivial⟩ ?_ | refine callS.at (sm) ⟨leA, leA, leA, trivial⟩ ?_)
         (repeat ((repeat1' (first | simp -implicitDefEqProofs -dsimp only [go_sem] | simp -dsimp (disch := omega) only [wrap_i64])); repeat (with_reducible refine sideA ?_)))
         exact WeakR.drop' (by simp) (by rfl)
     · rw [gridR_no (fun h => hp h.2.2)] at ig
       (first | refine callT.at (ig) ⟨leA, leA, trivial⟩ ?_ | refine callS.at (ig) ⟨leA, leA, trivial⟩ ?_)
       (repeat ((repeat1' (first | simp -implicitDefEqProofs -dsimp only [go_sem] | simp -dsimp (disch := omega) only [wrap_i64])); repeat (with_reducible refine sideA ?_)))
       refine callS.rel [] (drawBestOnGrid_ok hB) (by decide) ⟨leO, trivial⟩ rfl rfl (fun r hout hΦ => ?_)
       obtain ⟨X, k, hX, rfl, rfl⟩ := hΦ
       refine ⟨trivial, ?_⟩
       (repeat ((repeat1' (first | simp -implicitDefEqProofs -dsimp only [go_sem] | simp -dsimp (disch := omega) only [wrap_i64])); repeat (with_reducible refine sideA ?_)))
       have ig := iBestOnGrid_ok X k (by omega)
       have sg := sBestOnGrid_ok X k (by omega)
       obtain ⟨bo, bn, bb, eg, fg⟩ := gridR_eq X k (by omega)
       rw [eg] at ig sg
       (first | refine callT.at (ig) ⟨leA, leA, trivial⟩ ?_ | refine callS.at (ig) ⟨leA, leA, trivial⟩ ?_)
       (repeat ((repeat1' (first | simp -implicitDefEqProofs -dsimp only [go_sem, Origin.v] | simp -dsimp (disch := omega) only [wrap_i64])); repeat (with_reducible refine sideA ?_)))
       (first | refine callT.at (sg) ⟨leA, leA, trivial⟩ ?_ | refine callS.at (sg) ⟨leA, leA, trivial⟩ ?_)
       (repeat ((repeat1' (first | simp -implicitDefEqProofs -dsimp only [go_sem, Origin.v] | simp -dsimp (disch := omega) only [wrap_i64])); repeat (with_reducible refine sideA ?_)))
       cases bb with
       | false =>
         (repeat ((repeat1' (first | simp -implicitDefEqProofs -dsimp only [go_sem] | simp -dsimp (disch := omega) only [wrap_i64])); repeat (with_reducible refine sideA ?_)))
         refine callS.rel [] (drawMostVotesAt_ok hB) (by decide) ⟨leO, trivial⟩ rfl rfl (fun r hout hΦ => ?_)
         obtain ⟨Y, ya, yb, hY, rfl, rfl⟩ := hΦ
         refine ⟨trivial, ?_⟩
         (repeat ((repeat1' (first | simp -implicitDefEqProofs -dsimp only [go_sem] | simp -dsimp (disch := omega) only [wrap_i64])); repeat (with_reducible refine sideA ?_)))
         have im := iMostVotesAt_ok Y ya yb (by omega)
         have sm := sMostVotesAt_ok Y ya yb (by omega)
         obtain ⟨mm, mt, mb, em⟩ := mostR_eq Y ya yb
         rw [em] at im sm
         (first | refine callT.at (im) ⟨leA, leA, leA, trivial⟩ ?_ | refine callS.at (im) ⟨leA, leA, leA, trivial⟩ ?_)
         (repeat ((repeat1' (first | simp -implicitDefEqProofs -dsimp only [go_sem] | simp -dsimp (disch := omega) only [wrap_i64])); repeat (with_reducible refine sideA ?_)))
         (first | refine callT.at (sm) ⟨leA, leA, leA, trivial⟩ ?_ | refine callS.at (sm) ⟨leA, leA, leA, trivial⟩ ?_)
         (repeat ((repeat1' (first | simp -implicitDefEqProofs -dsimp only [go_sem] | simp -dsimp (disch := omega) only [wrap_i64])); repeat (with_reducible refine sideA ?_)))
         exact WeakR.drop' (by simp) (by rfl)
       | true =>
         obtain ⟨fa, fo, fn⟩ := fg rfl
         have iv := iVotesFor_ok X bo fa fo
         rw [fn] at iv
         (repeat ((repeat1' (first | simp -implicitDefEqProofs -dsimp only [go_sem] | simp -dsimp (disch := omega) only [wrap_i64])); repeat (with_reducible refine sideA ?_)))
         (first | refine callT.at (iv) ⟨leA, leA, trivial⟩ ?_ | refine callS.at (iv) ⟨leA, leA, trivial⟩ ?_)
         (repeat ((repeat1' (first | simp -implicitDefEqProofs -dsimp only [go_sem] | simp -dsimp (disch := omega) only [wrap_i64])); repeat (with_reducible refine sideA ?_)))
         refine callS.rel [] (drawMostVotesAt_ok hB) (by decide) ⟨leO, trivial⟩ rfl rfl (fun r hout hΦ => ?_)
         obtain ⟨Y, ya, yb, hY, rfl, rfl⟩ := hΦ
         refine ⟨trivial, ?_⟩
         (repeat ((repeat1' (first | simp -implicitDefEqProofs -dsimp only [go_sem] | simp -dsimp (disch := omega) only [wrap_i64])); repeat (with_reducible refine sideA ?_)))
         have im := iMostVotesAt_ok Y ya yb (by omega)
         have sm := sMostVotesAt_ok Y ya yb (by omega)
         obtain ⟨mm, mt, mb, em⟩ := mostR_eq Y ya yb
         rw [em] at im sm
         (first | refine callT.at (im) ⟨leA, leA, leA, trivial⟩ ?_ | refine callS.at (im) ⟨leA, leA, leA, trivial⟩ ?_)
         (repeat ((repeat1' (first | simp -implicitDefEqProofs -dsimp only [go_sem] | simp -dsimp (disch := omega) only [wrap_i64])); repeat (with_reducible refine sideA ?_)))
         (first | refine callT.at (sm) ⟨leA, leA, leA, trivial⟩ ?_ | refine callS.at (sm) ⟨leA, leA, leA, trivial⟩ ?_)
         (repeat ((repeat1' (first | simp -implicitDefEqProofs -dsimp only [go_sem] | simp -dsimp (disch := omega) only [wrap_i64])); repeat (with_reducible refine sideA ?_)))
         exact WeakR.drop' (by simp) (by rfl)
end Go.Proofs
end
