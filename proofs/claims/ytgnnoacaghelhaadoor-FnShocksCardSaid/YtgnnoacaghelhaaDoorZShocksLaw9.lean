/-
  A part of the proof: texts put together by a program of the prover. Conditions: none.
-/
import Derived.Test.YtgnnoacaghelhaaDoorZShocksLaw8
import Derived.ProofKit
import Derived.Deep.Slices
set_option linter.unusedSimpArgs false
set_option linter.unusedVariables false
section
set_option maxRecDepth 100000
set_option maxHeartbeats 2000000
namespace Go.Proofs
open Go.Lv
def dIsWP (r : V) (hout : Hp) : Prop := ∃ w : Watch, w.ok ∧ w.Posts.length ≤ 100 ∧ w.Shocks.length ≤ 100 ∧ r = w.v ∧ hout = []
theorem drawIsWatch_ok {B : List Int} (hB : CB B) : CtrP Tryd.prog 80 [ByteS.sl B] [] dIsWP := by
 have hcb : ∀ {c' : Cur} {k' : Int}, c'.le k' → k' ≤ 4000000 → c'.le 4611686018427387903 := fun h h' => ⟨h.1, by have := h.2; omega⟩
 obtain ⟨c, hcd⟩ : ∃ c : Cur, c = ⟨0, 0⟩ := ⟨_, rfl⟩
 have hc : c.le 0 := by rw [hcd]; exact curq_le (by omega)
 have hcc : c.cs B = [ByteS.sl B, .int .i64 0, .int .u64 0] := by rw [hcd]; rfl
 refine CtrP.intro Tryd.mixed Tryd.func80 rfl Tryd.okF80 ?_
 simp -implicitDefEqProofs -dsimp only [go_sem, Tryd.ntmps80, Tryd.results80]
 (repeat ((repeat1' (first | simp -implicitDefEqProofs -dsimp only [go_sem, ByteS.sl] | simp -dsimp (disch := omega) only [wrap_i64])); repeat (with_reducible refine sideA ?_)))
 rw [← ByteS.sl, ← hcc]
 refine callS.rel [1] (watch_ok hB (by omega) hc) (by decide) ⟨leO, trivial⟩ (lendCur rfl) rfl (fun r hout hΦ => ?_)
 obtain ⟨w, c1, hw, hp, hs, hc1, rfl, rfl⟩ := hΦ
 refine ⟨⟨⟨rfl, rfl⟩, trivial⟩, ?_⟩
 (repeat ((repeat1' (first | simp -implicitDefEqProofs -dsimp only [go_sem, Cur.ren, map_ren_rows, Watch.v] | simp -dsimp (disch := omega) only [wrap_i64])); repeat (with_reducible refine sideA ?_)))
 exact ⟨_, _, ⟨w, hw, hp, hs, rfl, rfl⟩, WeakR.drop' rfl (by simp [noOwn, rows_noOwn, Watch.v])⟩
theorem drawToReview_ok {B : List Int} (hB : CB B) : CtrP Tryd.prog 24 [ByteS.sl B] [] dIsWP := by
 refine CtrP.intro Tryd.mixed Tryd.func24 rfl Tryd.okF24 ?_
 simp -implicitDefEqProofs -dsimp only [go_sem, Tryd.ntmps24, Tryd.results24]
 (repeat ((repeat1' (first | simp -implicitDefEqProofs -dsimp only [go_sem] | simp -dsimp (disch := omega) only [wrap_i64])); repeat (with_reducible refine sideA ?_)))
 refine callS.rel [] (drawIsWatch_ok hB) (by decide) ⟨leO, trivial⟩ rfl rfl (fun r hout hΦ => ?_)
 obtain ⟨w, hw, hp, hs, rfl, rfl⟩ := hΦ
 refine ⟨trivial, ?_⟩
 (repeat ((repeat1' (first | simp -implicitDefEqProofs -dsimp only [go_sem, Watch.v] | simp -dsimp (disch := omega) only [wrap_i64])); repeat (with_reducible refine sideA ?_)))
 exact ⟨_, _, ⟨w, hw, hp, hs, rfl, rfl⟩, WeakR.drop' rfl (by simp [noOwn, rows_noOwn, Watch.v])⟩
theorem drawPostsUp_ok {B : List Int} (hB : CB B) : CtrP Tryd.prog 32 [ByteS.sl B] [] dIsWP := by
 refine CtrP.intro Tryd.mixed Tryd.func32 rfl Tryd.okF32 ?_
 simp -implicitDefEqProofs -dsimp only [go_sem, Tryd.ntmps32, Tryd.results32]
 (repeat ((repeat1' (first | simp -implicitDefEqProofs -dsimp only [go_sem] | simp -dsimp (disch := omega) only [wrap_i64])); repeat (with_reducible refine sideA ?_)))
 refine callS.rel [] (drawIsWatch_ok hB) (by decide) ⟨leO, trivial⟩ rfl rfl (fun r hout hΦ => ?_)
 obtain ⟨w, hw, hp, hs, rfl, rfl⟩ := hΦ
 refine ⟨trivial, ?_⟩
 (repeat ((repeat1' (first | simp -implicitDefEqProofs -dsimp only [go_sem, Watch.v] | simp -dsimp (disch := omega) only [wrap_i64])); repeat (with_reducible refine sideA ?_)))
 exact ⟨_, _, ⟨w, hw, hp, hs, rfl, rfl⟩, WeakR.drop' rfl (by simp [noOwn, rows_noOwn, Watch.v])⟩
def dShockTextP (r : V) (hout : Hp) : Prop := ∃ (w : Watch) (n : Int), w.ok ∧ w.Posts.length ≤ 100 ∧ w.Shocks.length ≤ 100 ∧ r = .tup [w.v, .int .i64 n] ∧ hout = []
theorem drawShockText_ok {B : List Int} (hB : CB B) : CtrP Tryd.prog 38 [ByteS.sl B] [] dShockTextP := by
 have hcb : ∀ {c' : Cur} {k' : Int}, c'.le k' → k' ≤ 4000000 → c'.le 4611686018427387903 := fun h h' => ⟨h.1, by have := h.2; omega⟩
 obtain ⟨c, hcd⟩ : ∃ c : Cur, c = ⟨0, 0⟩ := ⟨_, rfl⟩
 have hc : c.le 0 := by rw [hcd]; exact curq_le (by omega)
 have hcc : c.cs B = [ByteS.sl B, .int .i64 0, .int .u64 0] := by rw [hcd]; rfl
 refine CtrP.intro Tryd.mixed Tryd.func38 rfl Tryd.okF38 ?_
 simp -implicitDefEqProofs -dsimp only [go_sem, Tryd.ntmps38, Tryd.results38]
 (repeat ((repeat1' (first | simp -implicitDefEqProofs -dsimp only [go_sem, ByteS.sl] | simp -dsimp (disch := omega) only [wrap_i64])); repeat (with_reducible refine sideA ?_)))
 rw [← ByteS.sl, ← hcc]
 refine callS.rel [1] (watch_ok hB (by omega) hc) (by decide) ⟨leO, trivial⟩ (lendCur rfl) rfl (fun r hout hΦ => ?_)
 obtain ⟨w, c1, hw, hp, hs, hc1, rfl, rfl⟩ := hΦ
 refine ⟨⟨⟨rfl, rfl⟩, trivial⟩, ?_⟩
 (repeat ((repeat1' (first | simp -implicitDefEqProofs -dsimp only [go_sem, Cur.ren, map_ren_rows, Watch.v] | simp -dsimp (disch := omega) only [wrap_i64])); repeat (with_reducible refine sideA ?_)))
 refine guardT.split (fun h1 => ?_) (fun h1 => ?_)
 · have hpos : 0 < w.Shocks.length := by have := of_decide_eq_true h1; omega
   (repeat ((repeat1' (first | simp -implicitDefEqProofs -dsimp only [go_sem, h1] | simp -dsimp (disch := omega) only [wrap_i64])); repeat (with_reducible refine sideA ?_)))
   refine one_call hB hc1 (by omega) 6 (by omega) rfl (fun vc2 c2 hc2 => ?_)
   (repeat ((repeat1' (first | simp -implicitDefEqProofs -dsimp only [go_sem, Cur.ren, map_ren_rows] | simp -dsimp (disch := omega) only [wrap_i64])); repeat (with_reducible refine sideA ?_)))
   refine condT.split (fun h2 => ?_) (fun h2 => ?_)
   · (repeat ((repeat1' (first | simp -implicitDefEqProofs -dsimp only [go_sem, h2] | simp -dsimp (disch := omega) only [wrap_i64])); repeat (with_reducible refine sideA ?_)))
     obtain ⟨j, hj⟩ : ∃ j : Nat, pickV B w.Shocks.length c2 = j := ⟨(pickV B w.Shocks.length c2).toNat, by have := (pickV_bd hB (n := w.Shocks.length) hc2.1).1; omega⟩
     have hj' : j < w.Shocks.length := by have := (pickV_bd hB (n := w.Shocks.length) hc2.1).2; omega
     have hr0 := rows_at Shock.csl hj'
     have pk := pick_ok hB (hcb hc2 (by omega)) w.Shocks.length (by omega)
     rw [hj] at pk
     generalize pickC B w.Shocks.length c2 = c3 at pk
     refine lateT.tree (.take 1 (.take 3 (.take 4 (.alt 0 (.alt 2 (.alt 5 (.alt 6 (.alt 7 (.take 8 (.take 9 (.alt 10 (.alt 11 (.alt 12 .done .stop) .stop) (.alt 11 (.alt 10 (.alt 12 .done .stop) .stop) .stop)))) .stop) .stop) .stop) (.alt 5 (.alt 2 (.alt 6 (.alt 7 (.take 8 (.take 9 (.alt 10 (.alt 11 (.alt 12 .done .stop) .stop) (.alt 11 (.alt 10 (.alt 12 .done .stop) .stop) .stop)))) .stop) .stop) (.alt 6 (.alt 2 (.alt 7 (.take 8 (.take 9 (.alt 10 (.alt 11 (.alt 12 .done .stop) .stop) (.alt 11 (.alt 10 (.alt 12 .done .stop) .stop) .stop)))) .stop) (.alt 7 (.alt 2 (.take 8 (.take 9 (.alt 10 (.alt 11 (.alt 12 .done .stop) .stop) (.alt 11 (.alt 10 (.alt 12 .done .stop) .stop) .stop)))) (.alt 11 (.alt 2 (.take 8 (.take 9 (.alt 10 (.alt 12 .done .stop) .stop))) .stop) .stop)) .stop)) .stop)) .stop)) (.alt 2 (.alt 0 (.alt 5 (.alt 6 (.alt 7 (.take 8 (.take 9 (.alt 10 (.alt 11 (.alt 12 .done .stop) .stop) (.alt 11 (.alt 10 (.alt 12 .done .stop) .stop) .stop)))) .stop) .stop) .stop) (.alt 5 (.alt 0 (.alt 6 (.alt 7 (.take 8 (.take 9 (.alt 10 (.alt 11 (.alt 12 .done .stop) .stop) (.alt 11 (.alt 10 (.alt 12 .done .stop) .stop) .stop)))) .stop) .stop) (.alt 6 (.alt 0 (.alt 7 (.take 8 (.take 9 (.alt 10 (.alt 11 (.alt 12 .done .stop) .stop) (.alt 11 (.alt 10 (.alt 12 .done .stop) .stop) .stop)))) .stop) (.alt 7 (.take 8 (.take 9 (.alt 0 (.alt 10 (.alt 11 (.alt 12 .done .stop) .stop) (.alt 11 (.alt 10 (.alt 12 .done .stop) .stop) .stop)) (.alt 10 (.alt 0 (.alt 11 (.alt 12 .done .stop) .stop) .stop) .stop)))) .stop)) .stop)) .stop)) (.alt 5 (.alt 0 (.alt 2 (.alt 6 (.alt 7 (.take 8 (.take 9 (.alt 10 (.alt 11 (.alt 12 .done .stop) .stop) (.alt 11 (.alt 10 (.alt 12 .done .stop) .stop) .stop)))) .stop) .stop) (.alt 6 (.alt 2 (.alt 7 (.take 8 (.take 9 (.alt 10 (.alt 11 (.alt 12 .done .stop) .stop) (.alt 11 (.alt 10 (.alt 12 .done .stop) .stop) .stop)))) .stop) (.alt 7 (.alt 2 (.take 8 (.take 9 (.alt 10 (.alt 11 (.alt 12 .done .stop) .stop) (.alt 11 (.alt 10 (.alt 12 .done .stop) .stop) .stop)))) (.alt 11 (.alt 2 (.take 8 (.take 9 (.alt 10 (.alt 12 .done .stop) .stop))) .stop) .stop)) .stop)) .stop)) (.alt 2 (.alt 0 (.alt 6 (.alt 7 (.take 8 (.take 9 (.alt 10 (.alt 11 (.alt 12 .done .stop) .stop) (.alt 11 (.alt 10 (.alt 12 .done .stop) .stop) .stop)))) .stop) .stop) (.alt 6 (.alt 0 (.alt 7 (.take 8 (.take 9 (.alt 10 (.alt 11 (.alt 12 .done .stop) .stop) (.alt 11 (.alt 10 (.alt 12 .done .stop) .stop) .stop)))) .stop) (.alt 7 (.take 8 (.take 9 (.alt 0 (.alt 10 (.alt 11 (.alt 12 .done .stop) .stop) (.alt 11 (.alt 10 (.alt 12 .done .stop) .stop) .stop)) (.alt 10 (.alt 0 (.alt 11 (.alt 12 .done .stop) .stop) .stop) .stop)))) .stop)) .stop)) (.alt 6 (.alt 0 (.alt 2 (.alt 7 (.take 8 (.take 9 (.alt 10 (.alt 11 (.alt 12 .done .stop) .stop) (.alt 11 (.alt 10 (.alt 12 .done .stop) .stop) .stop)))) .stop) (.alt 7 (.alt 2 (.take 8 (.take 9 (.alt 10 (.alt 11 (.alt 12 .done .stop) .stop) (.alt 11 (.alt 10 (.alt 12 .done .stop) .stop) .stop)))) (.alt 11 (.alt 2 (.take 8 (.take 9 (.alt 10 (.alt 12 .done .stop) .stop))) .stop) .stop)) .stop)) (.alt 2 (.alt 0 (.alt 7 (.take 8 (.take 9 (.alt 10 (.alt 11 (.alt 12 .done .stop) .stop) (.alt 11 (.alt 10 (.alt 12 .done .stop) .stop) .stop)))) .stop) (.alt 7 (.take 8 (.take 9 (.alt 0 (.alt 10 (.alt 11 (.alt 12 .done .stop) .stop) (.alt 11 (.alt 10 (.alt 12 .done .stop) .stop) .stop)) (.alt 10 (.alt 0 (.alt 11 (.alt 12 .done .stop) .stop) .stop) .stop)))) .stop)) (.alt 7 (.alt 0 (.alt 2 (.take 8 (.take 9 (.alt 10 (.alt 11 (.alt 12 .done .stop) .stop) (.alt 11 (.alt 10 (.alt 12 .done .stop) .stop) .stop)))) (.alt 11 (.alt 2 (.take 8 (.take 9 (.alt 10 (.alt 12 .done .stop) .stop))) .stop) .stop)) (.alt 2 (.take 8 (.take 9 (.alt 0 (.alt 10 (.alt 11 (.alt 12 .done .stop) .stop) (.alt 11 (.alt 10 (.alt 12 .done .stop) .stop) .stop)) (.alt 10 (.alt 0 (.alt 11 (.alt 12 .done .stop) .stop) .stop) .stop)))) .stop)) .stop))) .stop))) .stop)))))) (by kernel_rfl) ?_
     (repeat ((repeat1' (first | simp -implicitDefEqProofs -dsimp only [go_sem] | simp -dsimp (disch := omega) only [wrap_i64])); repeat (with_reducible refine sideA ?_)))
     repeat' (first | (refine callS.lend [1] false pk (by decide) ⟨leO, leO, trivial⟩ (lendCur rfl) (growCur B _ _) (.inl rfl) ?_; (repeat ((repeat1' (first | simp -implicitDefEqProofs -dsimp only [go_sem, hr0, Shock.cs, Cur.ren, map_ren_rows] | simp -dsimp (disch := omega) only [wrap_i64])); repeat (with_reducible refine sideA ?_)))) | (refine And.intro ?_ ?_) | exact trivial | ((repeat ((repeat1' (first | simp -implicitDefEqProofs -dsimp only [go_sem, hr0, Shock.cs, Cur.ren, map_ren_rows, Watch.cs] | simp -dsimp (disch := omega) only [wrap_i64])); repeat (with_reducible refine sideA ?_))); exact ⟨_, _, ⟨w, w.Shocks[j].Number, hw, hp, hs, rfl, rfl⟩, WeakR.drop' rfl (by simp [noOwn, rows_noOwn, Watch.v])⟩))
     trace_state
   · (repeat ((repeat1' (first | simp -implicitDefEqProofs -dsimp only [go_sem, h2] | simp -dsimp (disch := omega) only [wrap_i64])); repeat (with_reducible refine sideA ?_)))
     refine clT.tree (fun s2 => ∃ n : Int, s2 = ⟨[.undef, .undef, .ptr 0 0, .int .i64 n, .undef, .undef, .undef, .undef, .undef, .undef, .undef, .undef, .undef, .undef, .undef, .undef, .undef, .undef, .undef, .undef, .undef, .undef, .undef, .undef, .undef, .undef, .undef, .undef, .undef, .undef, .undef, .undef, .undef, .undef, .undef], [some w.cs], 0⟩) (.take 1 (.alt 0 (.alt 2 (.alt 3 (.alt 4 (.alt 5 .done .stop) .stop) .stop) .stop) (.alt 2 (.alt 0 (.alt 3 (.alt 4 (.alt 5 .done .stop) .stop) .stop) (.alt 3 (.alt 0 (.alt 4 (.alt 5 .done .stop) .stop) .stop) .stop)) .stop))) (by kernel_rfl) (fun s2 hs2 => ?_) ?_
     · obtain ⟨n, rfl⟩ := hs2
       (repeat ((repeat1' (first | simp -implicitDefEqProofs -dsimp only [go_sem, Watch.cs] | simp -dsimp (disch := omega) only [wrap_i64])); repeat (with_reducible refine sideA ?_)))
       exact ⟨_, _, ⟨w, n, hw, hp, hs, rfl, rfl⟩, WeakR.drop' rfl (by simp [noOwn, rows_noOwn, Watch.v])⟩
     · (repeat ((repeat1' (first | simp -implicitDefEqProofs -dsimp only [go_sem, Watch.cs] | simp -dsimp (disch := omega) only [wrap_i64])); repeat (with_reducible refine sideA ?_)))
       repeat' (first | (refine among_call hB hc2 (by omega) [0, 1, 500] (by simp) (by simp) rfl rfl rfl (fun vc3 c3 pvc3 hc3 => ?_); (repeat ((repeat1' (first | simp -implicitDefEqProofs -dsimp only [go_sem, Cur.ren, map_ren_rows] | simp -dsimp (disch := omega) only [wrap_i64])); repeat (with_reducible refine sideA ?_))); refine ⟨_, ⟨vc3, rfl⟩, ?_⟩) | (refine And.intro ?_ ?_) | exact trivial)
       all_goals refine Weak.cut (1) (by simp) (by simp) ?_ ?_
       all_goals first | (simp [LeC, LeV, ren, cutF]; done) | (simp [cutH, cutB, ren, map_ren_rows, Watch.cs]; done)
 · (repeat ((repeat1' (first | simp -implicitDefEqProofs -dsimp only [go_sem, h1] | simp -dsimp (disch := omega) only [wrap_i64])); repeat (with_reducible refine sideA ?_)))
   obtain ⟨c2, ec2⟩ : ∃ x, x = c1 := ⟨_, rfl⟩
   have hc2 := hc1
   rw [← ec2] at hc2 ⊢
   refine clT.tree (fun s2 => ∃ n : Int, s2 = ⟨[.undef, .undef, .ptr 0 0, .int .i64 n, .undef, .undef, .undef, .undef, .undef, .undef, .undef, .undef, .undef, .undef, .undef, .undef, .undef, .undef, .undef, .undef, .undef, .undef, .undef, .undef, .undef, .undef, .undef, .undef, .undef, .undef, .undef, .undef, .undef, .undef, .undef], [some w.cs], 0⟩) (.take 1 (.alt 0 (.alt 2 (.alt 3 (.alt 4 (.alt 5 .done .stop) .stop) .stop) .stop) (.alt 2 (.alt 0 (.alt 3 (.alt 4 (.alt 5 .done .stop) .stop) .stop) (.alt 3 (.alt 0 (.alt 4 (.alt 5 .done .stop) .stop) .stop) .stop)) .stop))) (by kernel_rfl) (fun s2 hs2 => ?_) ?_
   · obtain ⟨n, rfl⟩ := hs2
     (repeat ((repeat1' (first | simp -implicitDefEqProofs -dsimp only [go_sem, Watch.cs] | simp -dsimp (disch := omega) only [wrap_i64])); repeat (with_reducible refine sideA ?_)))
     exact ⟨_, _, ⟨w, n, hw, hp, hs, rfl, rfl⟩, WeakR.drop' rfl (by simp [noOwn, rows_noOwn, Watch.v])⟩
   · (repeat ((repeat1' (first | simp -implicitDefEqProofs -dsimp only [go_sem, Watch.cs] | simp -dsimp (disch := omega) only [wrap_i64])); repeat (with_reducible refine sideA ?_)))
     repeat' (first | (refine among_call hB hc2 (by omega) [0, 1, 500] (by simp) (by simp) rfl rfl rfl (fun vc3 c3 pvc3 hc3 => ?_); (repeat ((repeat1' (first | simp -implicitDefEqProofs -dsimp only [go_sem, Cur.ren, map_ren_rows] | simp -dsimp (disch := omega) only [wrap_i64])); repeat (with_reducible refine sideA ?_))); refine ⟨_, ⟨vc3, rfl⟩, ?_⟩) | (refine And.intro ?_ ?_) | exact trivial)
     all_goals refine Weak.cut (1) (by simp) (by simp) ?_ ?_
     all_goals first | (simp [LeC, LeV, ren, cutF]; done) | (simp [cutH, cutB, ren, map_ren_rows, Watch.cs]; done)
end Go.Proofs
end
section
set_option maxRecDepth 100000
set_option maxHeartbeats 2000000
namespace Go.Proofs
open Go.Lv
theorem vInts_ok (L : List Int) (hl : L.length ≤ 1048576) : Ctr Tryd.prog 27 [IntS.sl L, IntS.sl L] [] (.bool true) [] := by
 refine Ctr.intro Tryd.mixed Tryd.func27 rfl Tryd.okF27 ?_
 simp -implicitDefEqProofs -dsimp only [go_sem, Tryd.ntmps27, Tryd.results27]
 (repeat ((repeat1' (first | simp -implicitDefEqProofs -dsimp only [go_sem] | simp -dsimp (disch := omega) only [wrap_i64])); repeat (with_reducible refine sideA ?_)))
 refine LoopT.intro (fun i : Nat => i ≤ L.length) (fun i => ⟨[IntS.sl L, IntS.sl L, .undef, .undef, .undef, .int .i64 i, .undef, .undef, .undef, .undef, .undef, .undef, .undef, .undef, .undef, .undef, .undef, .undef, .undef, .undef, .undef, .undef, .undef, .undef, .undef, .undef], [], 0⟩) (fun i => L.length - i) 0 (Nat.zero_le _) ?_ (fun i hi => ?_)
 · refine Weak.cut (0) (by simp) (by simp) ?_ ?_
   · simp [LeC, LeV, ren, cutF]
   · rfl
 simp -implicitDefEqProofs -dsimp only [go_sem]
 refine condT.split (fun h1 => ?_) (fun h1 => ?_)
 · have hi' : i < L.length := by simpa using h1
   have hr := rows_at IntS.csl hi'
   (repeat ((repeat1' (first | simp -implicitDefEqProofs -dsimp only [go_sem, h1, hr, IntS.cs] | simp -dsimp (disch := omega) only [wrap_i64])); repeat (with_reducible refine sideA ?_)))
   refine ⟨i + 1, hi', ?_, by omega⟩
   refine Weak.cut (0) (by simp) (by simp) ?_ ?_
   · simp [LeC, LeV, ren, cutF]
   · rfl
 · (repeat ((repeat1' (first | simp -implicitDefEqProofs -dsimp only [go_sem, h1] | simp -dsimp (disch := omega) only [wrap_i64])); repeat (with_reducible refine sideA ?_)))
   exact WeakR.drop' rfl (by rfl)
theorem vHas_ok (L : List Int) (x : Int) (hl : L.length ≤ 1048576) : Ctr Tryd.prog 37 [IntS.sl L, .int .i64 x] [] (.bool (L.any fun y => y == x)) [] := by
 refine Ctr.intro Tryd.mixed Tryd.func37 rfl Tryd.okF37 ?_
 simp -implicitDefEqProofs -dsimp only [go_sem, Tryd.ntmps37, Tryd.results37]
 refine LoopT.intro (fun i : Nat => i ≤ L.length ∧ (L.take i).any (fun y => y == x) = false) (fun i => ⟨[IntS.sl L, .int .i64 x, .undef, .undef, .undef, .int .i64 i, .undef, .undef, .undef, .undef, .undef, .undef, .undef, .undef, .undef, .undef, .undef, .undef], [], 0⟩) (fun i => L.length - i) 0 ⟨Nat.zero_le _, rfl⟩ ?_ (fun i hi => ?_)
 · refine Weak.cut (0) (by simp) (by simp) ?_ ?_
   · simp [LeC, LeV, ren, cutF]
   · rfl
 simp -implicitDefEqProofs -dsimp only [go_sem]
 refine condT.split (fun h1 => ?_) (fun h1 => ?_)
 · simp -implicitDefEqProofs -dsimp only [go_sem, h1]
   have hi' : i < L.length := by simpa using h1
   have hr := rows_at IntS.csl hi'
   (repeat ((repeat1' (first | simp -implicitDefEqProofs -dsimp only [go_sem, hr, IntS.cs] | simp -dsimp (disch := omega) only [wrap_i64])); repeat (with_reducible refine sideA ?_)))
   refine condT.split (fun h2 => ?_) (fun h2 => ?_) <;> (repeat ((repeat1' (first | simp -implicitDefEqProofs -dsimp only [go_sem, h2] | simp -dsimp (disch := omega) only [wrap_i64])); repeat (with_reducible refine sideA ?_)))
   · refine WeakR.drop' ?_ (by rfl)
     congr 1
     symm
     rw [List.any_eq_true]
     exact ⟨_, List.getElem_mem hi', h2⟩
   · refine ⟨i + 1, ⟨hi', by rw [List.take_succ_eq_append_getElem hi']; simp only [List.any_append, hi.2, List.any_cons, h2, List.any_nil, Bool.or_self]⟩, ?_, by omega⟩
     refine Weak.cut (0) (by simp) (by simp) ?_ ?_
     · simp [LeC, LeV, ren, cutF]
     · rfl
 · simp -implicitDefEqProofs -dsimp only [go_sem, h1]
   have hi' : i = L.length := by simp at h1; omega
   subst hi'
   have h2 := hi.2
   rw [List.take_length] at h2
   exact WeakR.drop' (by rw [h2]) (by rfl)
def vsum (L : List Int) : Int := L.foldl (fun s x => IntKind.i64.wrap (s + x)) 0
theorem vSum_ok (L : List Int) (hl : L.length ≤ 1048576) : Ctr Tryd.prog 30 [IntS.sl L] [] (.int .i64 (vsum L)) [] := by
 refine Ctr.intro Tryd.mixed Tryd.func30 rfl Tryd.okF30 ?_
 simp -implicitDefEqProofs -dsimp only [go_sem, Tryd.ntmps30, Tryd.results30]
 refine LoopT.intro (fun i : Nat => i ≤ L.length) (fun i => ⟨[IntS.sl L, .undef, .undef, .int .i64 (vsum (L.take i)), .int .i64 i, .undef, .undef, .undef, .undef, .undef, .undef, .undef, .undef, .undef, .undef, .undef, .undef, .undef], [], 0⟩) (fun i => L.length - i) 0 (Nat.zero_le _) ?_ (fun i hi => ?_)
 · refine Weak.cut (0) (by simp) (by simp) ?_ ?_
   · simp [LeC, LeV, ren, cutF, vsum]
   · rfl
 simp -implicitDefEqProofs -dsimp only [go_sem]
 refine condT.split (fun h1 => ?_) (fun h1 => ?_)
 · have hi' : i < L.length := by simpa using h1
   have hr := rows_at IntS.csl hi'
   have e : vsum (L.take (i + 1)) = IntKind.i64.wrap (vsum (L.take i) + L[i]) := by
     rw [List.take_succ_eq_append_getElem hi', vsum, List.foldl_append]; rfl
   (repeat ((repeat1' (first | simp -implicitDefEqProofs -dsimp only [go_sem, h1, hr, IntS.cs] | simp -dsimp (disch := omega) only [wrap_i64])); repeat (with_reducible refine sideA ?_)))
   refine ⟨i + 1, hi', ?_, by omega⟩
   refine Weak.cut (0) (by simp) (by simp) ?_ ?_
   · simp [LeC, LeV, ren, cutF, e]
   · rfl
 · have hi' : i = L.length := by simp at h1; omega
   subst hi'
   rw [List.take_length]
   (repeat ((repeat1' (first | simp -implicitDefEqProofs -dsimp only [go_sem, h1] | simp -dsimp (disch := omega) only [wrap_i64])); repeat (with_reducible refine sideA ?_)))
   exact WeakR.drop' rfl (by rfl)
end Go.Proofs
end
section
set_option maxRecDepth 100000
set_option maxHeartbeats 2000000
namespace Go.Proofs
open Go.Lv
theorem vBig_ok (L : List Int) : Ctr Tryd.prog 23 [ByteS.sl L] [] (.bool (decide (65536 < (L.length : Int)))) [] := by
 refine Ctr.intro Tryd.mixed Tryd.func23 rfl Tryd.okF23 ?_
 simp -implicitDefEqProofs -dsimp only [go_sem, Tryd.ntmps23, Tryd.results23]
 (repeat ((repeat1' (first | simp -implicitDefEqProofs -dsimp only [go_sem] | simp -dsimp (disch := omega) only [wrap_i64])); repeat (with_reducible refine sideA ?_)))
 exact WeakR.drop' rfl (by rfl)
end Go.Proofs
end
section
set_option maxRecDepth 100000
set_option maxHeartbeats 4000000
namespace Go.Proofs
open Go.Lv
theorem upTo_len100 {w : Watch} (hp : w.Posts.length ≤ 100) : (upTo w.Posts w.Posts.length).length ≤ 100 := by
 have := upTo_len w.Posts w.Posts.length
 omega
theorem shockTextR_eq (w : Watch) (n : Int) : ∃ (t : ByteArray) (b : Bool), shockTextR w n = .tup [.str t, .bool b] := by
 unfold shockTextR
 split
 · split
   · exact ⟨_, _, rfl⟩
   · exact ⟨_, _, rfl⟩
 · exact ⟨_, _, rfl⟩
theorem fnShocksLaw_ok (L : List Int) (hL : lstR ByteS.ok L) : Ctr Tryd.prog 4 [ByteS.sl L] [] (.bool true) [] := by
 have hB : CB L := hL
 refine Ctr.intro Tryd.mixed Tryd.func4 rfl Tryd.okF4 ?_
 simp -implicitDefEqProofs -dsimp only [go_sem, Tryd.ntmps4, Tryd.results4]
 (repeat ((repeat1' (first | simp -implicitDefEqProofs -dsimp only [go_sem] | simp -dsimp (disch := omega) only [wrap_i64])); repeat (with_reducible refine sideA ?_)))
 (first | refine callT.at (vBig_ok L) ⟨leA, trivial⟩ ?_ | refine callS.at (vBig_ok L) ⟨leA, trivial⟩ ?_)
 (repeat ((repeat1' (first | simp -implicitDefEqProofs -dsimp only [go_sem] | simp -dsimp (disch := omega) only [wrap_i64])); repeat (with_reducible refine sideA ?_)))
 refine condT.split (fun h1 => ?_) (fun h1 => ?_) <;> (repeat ((repeat1' (first | simp -implicitDefEqProofs -dsimp only [go_sem, h1] | simp -dsimp (disch := omega) only [wrap_i64])); repeat (with_reducible refine sideA ?_)))
 · exact WeakR.drop' rfl (by rfl)
 refine callS.rel [] (drawToReview_ok hB) (by decide) ⟨leO, trivial⟩ rfl rfl (fun r hout hΦ => ?_)
 obtain ⟨w, hw, hwp, hws, rfl, rfl⟩ := hΦ
 refine ⟨trivial, ?_⟩
 (repeat ((repeat1' (first | simp -implicitDefEqProofs -dsimp only [go_sem, Watch.v] | simp -dsimp (disch := omega) only [wrap_i64])); repeat (with_reducible refine sideA ?_)))
 have ir := (iToReview_ok w (by omega) (by omega)).weak (frzN _)
 have sr := (sToReview_ok w (by omega) (by omega)).weak (frzO _)
 have is := (iShockStates_ok w (by omega) (by omega)).weak (frzN _)
 have ss := (sShockStates_ok w (by omega) (by omega)).weak (frzO _)
 cases hb : wB w with
 | false =>
   have er : reviewR w = none := by simp [reviewR, hb]
   have es : statesR w = none := by simp [statesR, hb]
   rw [er] at ir sr
   rw [es] at is ss
   simp only [frzV, Option.getD_none, Option.isSome_none, List.length_nil] at ir sr is ss
   have hv0 := vInts_ok [] (by decide)
   (first | refine callT.at (ir) ⟨leA, trivial⟩ ?_ | refine callS.at (ir) ⟨leA, trivial⟩ ?_)
   (repeat ((repeat1' (first | simp -implicitDefEqProofs -dsimp only [go_sem, Watch.v] | simp -dsimp (disch := omega) only [wrap_i64])); repeat (with_reducible refine sideA ?_)))
   (first | refine callT.at (sr) ⟨leA, trivial⟩ ?_ | refine callS.at (sr) ⟨leA, trivial⟩ ?_)
   (repeat ((repeat1' (first | simp -implicitDefEqProofs -dsimp only [go_sem, Watch.v] | simp -dsimp (disch := omega) only [wrap_i64])); repeat (with_reducible refine sideA ?_)))
   (first | refine callT.at (hv0) ⟨leA, leA, trivial⟩ ?_ | refine callS.at (hv0) ⟨leA, leA, trivial⟩ ?_)
   (repeat ((repeat1' (first | simp -implicitDefEqProofs -dsimp only [go_sem, Watch.v] | simp -dsimp (disch := omega) only [wrap_i64])); repeat (with_reducible refine sideA ?_)))
   (first | refine callT.at (is) ⟨leA, trivial⟩ ?_ | refine callS.at (is) ⟨leA, trivial⟩ ?_)
   (repeat ((repeat1' (first | simp -implicitDefEqProofs -dsimp only [go_sem, Watch.v] | simp -dsimp (disch := omega) only [wrap_i64])); repeat (with_reducible refine sideA ?_)))
   (first | refine callT.at (ss) ⟨leA, trivial⟩ ?_ | refine callS.at (ss) ⟨leA, trivial⟩ ?_)
   (repeat ((repeat1' (first | simp -implicitDefEqProofs -dsimp only [go_sem, Watch.v] | simp -dsimp (disch := omega) only [wrap_i64])); repeat (with_reducible refine sideA ?_)))
   (first | refine callT.at (hv0) ⟨leA, leA, trivial⟩ ?_ | refine callS.at (hv0) ⟨leA, leA, trivial⟩ ?_)
   (repeat ((repeat1' (first | simp -implicitDefEqProofs -dsimp only [go_sem, Watch.v] | simp -dsimp (disch := omega) only [wrap_i64])); repeat (with_reducible refine sideA ?_)))
   refine LoopT.intro (fun i : Nat => i ≤ 0) (fun i => ⟨[ByteS.sl L, .undef, .undef, .ptr 0 0, IntS.sl [], .undef, .undef, .undef, .undef, .undef, .undef, .undef, .int .i64 i, .undef, .undef, .undef, .undef, .undef, .undef, .undef, .undef, .undef, .undef, .undef, .undef, .undef, .undef, .undef, .undef, .undef, .undef, .undef, .undef, .undef, .undef, .undef, .undef, .undef, .undef, .undef, .undef, .undef, .undef, .undef, .undef, .undef, .undef, .undef, .undef, .undef, .undef, .undef, .undef, .undef, .undef, .undef, .undef, .undef, .undef, .undef, .undef, .undef, .undef, .undef, .undef, .undef, .undef, .undef, .undef, .undef, .undef, .undef, .undef, .undef, .undef, .undef, .undef, .undef, .undef, .undef, .undef, .undef, .undef, .undef, .undef, .undef, .undef, .undef, .undef, .undef, .undef, .undef, .undef, .undef, .undef, .undef, .undef, .undef, .undef, .undef, .undef, .undef, .undef, .undef, .undef, .undef, .undef, .undef, .undef, .undef, .undef, .undef, .undef, .undef, .undef, .undef, .undef, .undef, .undef, .undef, .undef, .undef, .undef, .undef, .undef, .undef, .undef, .undef, .undef, .undef, .undef, .undef, .undef, .undef, .undef, .undef, .undef, .undef, .undef, .undef, .undef, .undef, .undef, .undef, .undef, .undef, .undef, .undef, .undef, .undef, .undef, .undef, .undef, .undef, .undef, .undef, .undef, .undef, .undef, .undef, .undef, .undef, .undef, .undef, .undef, .undef, .undef, .undef, .undef, .undef, .undef, .undef, .undef, .undef, .undef, .undef, .undef, .undef, .undef, .undef, .undef, .undef, .undef, .undef, .undef, .undef, .undef, .undef, .undef, .undef, .undef, .undef, .undef, .undef, .undef, .undef, .undef, .undef, .undef, .undef, .undef, .undef, .undef, .undef, .undef, .undef, .undef, .undef, .undef, .undef], [some w.cs], 0⟩) (fun i => 0 - i) 0 (Nat.le_refl _) ?_ (fun i hi => ?_)
   · refine Weak.cut (1) (by simp) (by simp) ?_ ?_
     · simp [LeC, LeV, ren, cutF, IntS.sl]
     · simp [cutH, cutB, cutF, ren, map_ren_rows, Watch.cs]
   obtain rfl : i = 0 := by omega
   have h00 : decide (((0 : Nat) : Int) < ((0 : Nat) : Int)) = false := by decide
   (repeat ((repeat1' (first | simp -implicitDefEqProofs -dsimp only [go_sem, Watch.cs, h00, IntS.sl] | simp -dsimp (disch := omega) only [wrap_i64])); repeat (with_reducible refine sideA ?_)))
   refine callS.rel [] (drawPostsUp_ok hB) (by decide) ⟨leO, trivial⟩ rfl rfl (fun r hout hΦ => ?_)
   obtain ⟨x, hx, hxp, hxs, rfl, rfl⟩ := hΦ
   refine ⟨trivial, ?_⟩
   (repeat ((repeat1' (first | simp -implicitDefEqProofs -dsimp only [go_sem, Watch.v] | simp -dsimp (disch := omega) only [wrap_i64])); repeat (with_reducible refine sideA ?_)))
   have iu := (iPostsUp_ok x (by omega) (by omega)).weak (frzN _)
   have su := (sPostsUp_ok x (by omega) (by omega)).weak (frzO _)
   have il := iLongestDown_ok x (by omega) (by omega)
   have sl := sLongestDown_ok x (by omega) (by omega)
   obtain ⟨lst, ltk, lkn, e1, e2, e3⟩ := long_facts x
   rw [e1] at il sl
   have ul := upTo_len100 hxp
   have hvi := vInts_ok (upTo x.Posts x.Posts.length) (by omega)
   have hvh := vHas_ok (upTo x.Posts x.Posts.length) lst (by omega)
   cases hxb : wB x with
   | false =>
     have eu : upR x = none := by simp [upR, hxb]
     rw [hxb, Bool.false_and] at e2
     subst e2
     rw [eu] at iu su
     simp only [frzV, Option.getD_none, Option.isSome_none, List.length_nil] at iu su
     (first | refine callT.at (iu) ⟨leA, trivial⟩ ?_ | refine callS.at (iu) ⟨leA, trivial⟩ ?_)
     (repeat ((repeat1' (first | simp -implicitDefEqProofs -dsimp only [go_sem, Watch.v] | simp -dsimp (disch := omega) only [wrap_i64])); repeat (with_reducible refine sideA ?_)))
     (first | refine callT.at (su) ⟨leA, trivial⟩ ?_ | refine callS.at (su) ⟨leA, trivial⟩ ?_)
     (repeat ((repeat1' (first | simp -implicitDefEqProofs -dsimp only [go_sem, Watch.v] | simp -dsimp (disch := omega) only [wrap_i64])); repeat (with_reducible refine sideA ?_)))
     have hv0 := vInts_ok [] (by decide)
     (first | refine callT.at (hv0) ⟨leA, leA, trivial⟩ ?_ | refine callS.at (hv0) ⟨leA, leA, trivial⟩ ?_)
     (repeat ((repeat1' (first | simp -implicitDefEqProofs -dsimp only [go_sem, Watch.v] | simp -dsimp (disch := omega) only [wrap_i64])); repeat (with_reducible refine sideA ?_)))
     (first | refine callT.at (il) ⟨leA, trivial⟩ ?_ | refine callS.at (il) ⟨leA, trivial⟩ ?_)
     (repeat ((repeat1' (first | simp -implicitDefEqProofs -dsimp only [go_sem, Watch.v] | simp -dsimp (disch := omega) only [wrap_i64])); repeat (with_reducible refine sideA ?_)))
     (first | refine callT.at (sl) ⟨leA, trivial⟩ ?_ | refine callS.at (sl) ⟨leA, trivial⟩ ?_)
     (repeat ((repeat1' (first | simp -implicitDefEqProofs -dsimp only [go_sem] | simp -dsimp (disch := omega) only [wrap_i64])); repeat (with_reducible refine sideA ?_)))
     refine callS.rel [] (drawShockText_ok hB) (by decide) ⟨leO, trivial⟩ rfl rfl (fun r hout hΦ => ?_)
     obtain ⟨y, n, hy, hyp, hys, rfl, rfl⟩ := hΦ
     refine ⟨trivial, ?_⟩
     (repeat ((repeat1' (first | simp -implicitDefEqProofs -dsimp only [go_sem, Watch.v] | simp -dsimp (disch := omega) only [wrap_i64])); repeat (with_reducible refine sideA ?_)))
     have it := iShockText_ok y n (by omega) (by omega)
     have st := sShockText_ok y n (by omega) (by omega)
     obtain ⟨t, b, et⟩ := shockTextR_eq y n
     rw [et] at it st
     (first | refine callT.at (it) ⟨leA, leA, trivial⟩ ?_ | refine callS.at (it) ⟨leA, leA, trivial⟩ ?_)
     (repeat ((repeat1' (first | simp -implicitDefEqProofs -dsimp only [go_sem, Watch.v] | simp -dsimp (disch := omega) only [wrap_i64])); repeat (with_reducible refine sideA ?_)))
     (first | refine callT.at (st) ⟨leA, leA, trivial⟩ ?_ | refine callS.at (st) ⟨leA, leA, trivial⟩ ?_)
     cases b with
     | false =>
       (repeat ((repeat1' (first | simp -implicitDefEqProofs -dsimp only [go_sem] | simp -dsimp (disch := omega) only [wrap_i64])); repeat (with_reducible refine sideA ?_)))
       exact WeakR.drop' (by simp) (by rfl)
     | true =>
       (repeat ((repeat1' (first | simp -implicitDefEqProofs -dsimp only [go_sem] | simp -dsimp (disch := omega) only [wrap_i64])); repeat (with_reducible refine sideA ?_)))
       exact WeakR.drop' (by simp) (by rfl)
   | true =>
     have eu : upR x = some (upTo x.Posts x.Posts.length) := by simp [upR, hxb]
     rw [hxb, Bool.true_and] at e2
     rw [eu] at iu su
     simp only [frzV, Option.getD_some, Option.isSome_some] at iu su
     cases lkn with
     | false =>
       have hd : decide (((upTo x.Posts x.Posts.length).length : Int) < (x.Posts.length : Int)) = false := by
         have := of_decide_eq_false e2.symm
         exact decide_eq_false (by omega)
       (first | refine callT.at (iu) ⟨leA, trivial⟩ ?_ | refine callS.at (iu) ⟨leA, trivial⟩ ?_)
       (repeat ((repeat1' (first | simp -implicitDefEqProofs -dsimp only [go_sem, Watch.v] | simp -dsimp (disch := omega) only [wrap_i64])); repeat (with_reducible refine sideA ?_)))
       (first | refine callT.at (su) ⟨leA, trivial⟩ ?_ | refine callS.at (su) ⟨leA, trivial⟩ ?_)
       (repeat ((repeat1' (first | simp -implicitDefEqProofs -dsimp only [go_sem, Watch.v] | simp -dsimp (disch := omega) only [wrap_i64])); repeat (with_reducible refine sideA ?_)))
       (first | refine callT.at (hvi) ⟨leA, leA, trivial⟩ ?_ | refine callS.at (hvi) ⟨leA, leA, trivial⟩ ?_)
       (repeat ((repeat1' (first | simp -implicitDefEqProofs -dsimp only [go_sem, Watch.v] | simp -dsimp (disch := omega) only [wrap_i64])); repeat (with_reducible refine sideA ?_)))
       (first | refine callT.at (il) ⟨leA, trivial⟩ ?_ | refine callS.at (il) ⟨leA, trivial⟩ ?_)
       (repeat ((repeat1' (first | simp -implicitDefEqProofs -dsimp only [go_sem, Watch.v] | simp -dsimp (disch := omega) only [wrap_i64])); repeat (with_reducible refine sideA ?_)))
       (first | refine callT.at (sl) ⟨leA, trivial⟩ ?_ | refine callS.at (sl) ⟨leA, trivial⟩ ?_)
       (repeat ((repeat1' (first | simp -implicitDefEqProofs -dsimp only [go_sem, hd] | simp -dsimp (disch := omega) only [wrap_i64])); repeat (with_reducible refine sideA ?_)))
       refine callS.rel [] (drawShockText_ok hB) (by decide) ⟨leO, trivial⟩ rfl rfl (fun r hout hΦ => ?_)
       obtain ⟨y, n, hy, hyp, hys, rfl, rfl⟩ := hΦ
       refine ⟨trivial, ?_⟩
       (repeat ((repeat1' (first | simp -implicitDefEqProofs -dsimp only [go_sem, Watch.v] | simp -dsimp (disch := omega) only [wrap_i64])); repeat (with_reducible refine sideA ?_)))
       have it := iShockText_ok y n (by omega) (by omega)
       have st := sShockText_ok y n (by omega) (by omega)
       obtain ⟨t, b, et⟩ := shockTextR_eq y n
       rw [et] at it st
       (first | refine callT.at (it) ⟨leA, leA, trivial⟩ ?_ | refine callS.at (it) ⟨leA, leA, trivial⟩ ?_)
       (repeat ((repeat1' (first | simp -implicitDefEqProofs -dsimp only [go_sem, Watch.v] | simp -dsimp (disch := omega) only [wrap_i64])); repeat (with_reducible refine sideA ?_)))
       (first | refine callT.at (st) ⟨leA, leA, trivial⟩ ?_ | refine callS.at (st) ⟨leA, leA, trivial⟩ ?_)
       cases b with
       | false =>
         (repeat ((repeat1' (first | simp -implicitDefEqProofs -dsimp only [go_sem] | simp -dsimp (disch := omega) only [wrap_i64])); repeat (with_reducible refine sideA ?_)))
         exact WeakR.drop' (by simp) (by rfl)
       | true =>
         (repeat ((repeat1' (first | simp -implicitDefEqProofs -dsimp only [go_sem] | simp -dsimp (disch := omega) only [wrap_i64])); repeat (with_reducible refine sideA ?_)))
         exact WeakR.drop' (by simp) (by rfl)
     | true =>
       have hd : decide (((upTo x.Posts x.Posts.length).length : Int) < (x.Posts.length : Int)) = true := by
         have := of_decide_eq_true e2.symm
         exact decide_eq_true (by omega)
       obtain ⟨e4, e5⟩ := e3 rfl
       have ht : decide (ltk < 0) = false := decide_eq_false (by omega)
       have hany : ((upTo x.Posts x.Posts.length).any fun y => y == lst) = false := by
         rw [List.any_eq_false]
         intro y hy
         have : y ≠ lst := fun e => e5 (e ▸ hy)
         simpa using this
       rw [hany] at hvh
       (first | refine callT.at (iu) ⟨leA, trivial⟩ ?_ | refine callS.at (iu) ⟨leA, trivial⟩ ?_)
       (repeat ((repeat1' (first | simp -implicitDefEqProofs -dsimp only [go_sem, Watch.v] | simp -dsimp (disch := omega) only [wrap_i64])); repeat (with_reducible refine sideA ?_)))
       (first | refine callT.at (su) ⟨leA, trivial⟩ ?_ | refine callS.at (su) ⟨leA, trivial⟩ ?_)
       (repeat ((repeat1' (first | simp -implicitDefEqProofs -dsimp only [go_sem, Watch.v] | simp -dsimp (disch := omega) only [wrap_i64])); repeat (with_reducible refine sideA ?_)))
       (first | refine callT.at (hvi) ⟨leA, leA, trivial⟩ ?_ | refine callS.at (hvi) ⟨leA, leA, trivial⟩ ?_)
       (repeat ((repeat1' (first | simp -implicitDefEqProofs -dsimp only [go_sem, Watch.v] | simp -dsimp (disch := omega) only [wrap_i64])); repeat (with_reducible refine sideA ?_)))
       (first | refine callT.at (il) ⟨leA, trivial⟩ ?_ | refine callS.at (il) ⟨leA, trivial⟩ ?_)
       (repeat ((repeat1' (first | simp -implicitDefEqProofs -dsimp only [go_sem, Watch.v] | simp -dsimp (disch := omega) only [wrap_i64])); repeat (with_reducible refine sideA ?_)))
       (first | refine callT.at (sl) ⟨leA, trivial⟩ ?_ | refine callS.at (sl) ⟨leA, trivial⟩ ?_)
       (repeat ((repeat1' (first | simp -implicitDefEqProofs -dsimp only [go_sem, hd, ht] | simp -dsimp (disch := omega) only [wrap_i64])); repeat (with_reducible refine sideA ?_)))
       (first | refine callT.at (hvh) ⟨leA, leA, trivial⟩ ?_ | refine callS.at (hvh) ⟨leA, leA, trivial⟩ ?_)
       (repeat ((repeat1' (first | simp -implicitDefEqProofs -dsimp only [go_sem] | simp -dsimp (disch := omega) only [wrap_i64])); repeat (with_reducible refine sideA ?_)))
       refine callS.rel [] (drawShockText_ok hB) (by decide) ⟨leO, trivial⟩ rfl rfl (fun r hout hΦ => ?_)
       obtain ⟨y, n, hy, hyp, hys, rfl, rfl⟩ := hΦ
       refine ⟨trivial, ?_⟩
       (repeat ((repeat1' (first | simp -implicitDefEqProofs -dsimp only [go_sem, Watch.v] | simp -dsimp (disch := omega) only [wrap_i64])); repeat (with_reducible refine sideA ?_)))
       have it := iShockText_ok y n (by omega) (by omega)
       have st := sShockText_ok y n (by omega) (by omega)
       obtain ⟨t, b, et⟩ := shockTextR_eq y n
       rw [et] at it st
       (first | refine callT.at (it) ⟨leA, leA, trivial⟩ ?_ | refine callS.at (it) ⟨leA, leA, trivial⟩ ?_)
       (repeat ((repeat1' (first | simp -implicitDefEqProofs -dsimp only [go_sem, Watch.v] | simp -dsimp (disch := omega) only [wrap_i64])); repeat (with_reducible refine sideA ?_)))
       (first | refine callT.at (st) ⟨leA, leA, trivial⟩ ?_ | refine callS.at (st) ⟨leA, leA, trivial⟩ ?_)
       cases b with
       | false =>
         (repeat ((repeat1' (first | simp -implicitDefEqProofs -dsimp only [go_sem] | simp -dsimp (disch := omega) only [wrap_i64])); repeat (with_reducible refine sideA ?_)))
         exact WeakR.drop' (by simp) (by rfl)
       | true =>
         (repeat ((repeat1' (first | simp -implicitDefEqProofs -dsimp only [go_sem] | simp -dsimp (disch := omega) only [wrap_i64])); repeat (with_reducible refine sideA ?_)))
         exact WeakR.drop' (by simp) (by rfl)
 | true =>
   have er : reviewR w = some ((revL w).map Shock.Number) := by simp [reviewR, hb]
   have es : statesR w = some (statesTo w.Shocks) := by simp [statesR, hb]
   rw [er] at ir sr
   rw [es] at is ss
   simp only [frzV, Option.getD_some, Option.isSome_some] at ir sr is ss
   obtain ⟨q1, q2, q3⟩ := statesTo_eq hb
   have hsl := (wB_ok hb).slen
   have hrl : ((revL w).map Shock.Number).length ≤ 6 := by
     rw [List.length_map]
     have : (revL w).length ≤ w.Shocks.length := by rw [revL, insSort_len]; exact List.length_filter_le _ _
     omega
   have hv1 := vInts_ok ((revL w).map Shock.Number) (by omega)
   have hv2 := vInts_ok (statesTo w.Shocks) (by rw [q1]; simp)
   have hvs := vSum_ok (statesTo w.Shocks) (by rw [q1]; simp)
   have hrv := fun n (hn : n ∈ (revL w).map Shock.Number) => review_ok hb hn
   have hls : ((revL w).map Shock.Number).length = (revL w).length := List.length_map _
   have hsum : vsum (statesTo w.Shocks) = w.Shocks.length := by
     have n0 : 0 ≤ stc w.Shocks 0 := by unfold stc; omega
     have n1 : 0 ≤ stc w.Shocks 1 := by unfold stc; omega
     have n2 : 0 ≤ stc w.Shocks 2 := by unfold stc; omega
     have n3 : 0 ≤ stc w.Shocks 3 := by unfold stc; omega
     rw [q1]
     simp only [vsum, List.foldl_cons, List.foldl_nil]
     rw [wrap_i64 (n := 0 + stc w.Shocks 0) (by omega) (by omega), wrap_i64 (n := 0 + stc w.Shocks 0 + stc w.Shocks 1) (by omega) (by omega), wrap_i64 (n := 0 + stc w.Shocks 0 + stc w.Shocks 1 + stc w.Shocks 2) (by omega) (by omega), wrap_i64 (by omega) (by omega)]
     omega
   have hat : List.take 1 (List.drop 1 (rows IntS.cs (statesTo w.Shocks))) = [.int .i64 ((revL w).length : Int)] := by
     rw [q1, ← q3]; rfl
   have hsl4 : (statesTo w.Shocks).length = 4 := by rw [q1]; rfl
   rw [hsum] at hvs
   generalize statesTo w.Shocks = ST at *
   generalize hRV : (revL w).map Shock.Number = RL at *
   (first | refine callT.at (ir) ⟨leA, trivial⟩ ?_ | refine callS.at (ir) ⟨leA, trivial⟩ ?_)
   (repeat ((repeat1' (first | simp -implicitDefEqProofs -dsimp only [go_sem, Watch.v] | simp -dsimp (disch := omega) only [wrap_i64])); repeat (with_reducible refine sideA ?_)))
   (first | refine callT.at (sr) ⟨leA, trivial⟩ ?_ | refine callS.at (sr) ⟨leA, trivial⟩ ?_)
   (repeat ((repeat1' (first | simp -implicitDefEqProofs -dsimp only [go_sem, Watch.v] | simp -dsimp (disch := omega) only [wrap_i64])); repeat (with_reducible refine sideA ?_)))
   (first | refine callT.at (hv1) ⟨leA, leA, trivial⟩ ?_ | refine callS.at (hv1) ⟨leA, leA, trivial⟩ ?_)
   (repeat ((repeat1' (first | simp -implicitDefEqProofs -dsimp only [go_sem, Watch.v] | simp -dsimp (disch := omega) only [wrap_i64])); repeat (with_reducible refine sideA ?_)))
   (first | refine callT.at (is) ⟨leA, trivial⟩ ?_ | refine callS.at (is) ⟨leA, trivial⟩ ?_)
   (repeat ((repeat1' (first | simp -implicitDefEqProofs -dsimp only [go_sem, Watch.v] | simp -dsimp (disch := omega) only [wrap_i64])); repeat (with_reducible refine sideA ?_)))
   (first | refine callT.at (ss) ⟨leA, trivial⟩ ?_ | refine callS.at (ss) ⟨leA, trivial⟩ ?_)
   (repeat ((repeat1' (first | simp -implicitDefEqProofs -dsimp only [go_sem, Watch.v] | simp -dsimp (disch := omega) only [wrap_i64])); repeat (with_reducible refine sideA ?_)))
   (first | refine callT.at (hv2) ⟨leA, leA, trivial⟩ ?_ | refine callS.at (hv2) ⟨leA, leA, trivial⟩ ?_)
   (repeat ((repeat1' (first | simp -implicitDefEqProofs -dsimp only [go_sem, Watch.v] | simp -dsimp (disch := omega) only [wrap_i64])); repeat (with_reducible refine sideA ?_)))
   (first | refine callT.at (hvs) ⟨leA, trivial⟩ ?_ | refine callS.at (hvs) ⟨leA, trivial⟩ ?_)
   (repeat ((repeat1' (first | simp -implicitDefEqProofs -dsimp only [go_sem, Watch.v, hat, hsl4, hls] | simp -dsimp (disch := omega) only [wrap_i64])); repeat (with_reducible refine sideA ?_)))
   refine LoopT.intro (fun i : Nat => i ≤ RL.length) (fun i => ⟨[ByteS.sl L, .undef, .undef, .ptr 0 0, IntS.sl RL, .undef, .undef, .undef, .undef, .undef, .undef, .undef, .int .i64 i, .undef, .undef, .undef, .undef, .undef, .undef, .undef, .undef, .undef, .undef, .undef, .undef, .undef, .undef, .undef, .undef, .undef, .undef, .undef, .undef, .undef, .undef, .undef, .undef, .undef, .undef, .undef, .undef, .undef, .undef, .undef, .undef, .undef, .undef, .undef, .undef, .undef, .undef, .undef, .undef, .undef, .undef, .undef, .undef, .undef, .undef, .undef, .undef, .undef, .undef, .undef, .undef, .undef, .undef, .undef, .undef, .undef, .undef, .undef, .undef, .undef, .undef, .undef, .undef, .undef, .undef, .undef, .undef, .undef, .undef, .undef, .undef, .undef, .undef, .undef, .undef, .undef, .undef, .undef, .undef, .undef, .undef, .undef, .undef, .undef, .undef, .undef, .undef, .undef, .undef, .undef, .undef, .undef, .undef, .undef, .undef, .undef, .undef, .undef, .undef, .undef, .undef, .undef, .undef, .undef, .undef, .undef, .undef, .undef, .undef, .undef, .undef, .undef, .undef, .undef, .undef, .undef, .undef, .undef, .undef, .undef, .undef, .undef, .undef, .undef, .undef, .undef, .undef, .undef, .undef, .undef, .undef, .undef, .undef, .undef, .undef, .undef, .undef, .undef, .undef, .undef, .undef, .undef, .undef, .undef, .undef, .undef, .undef, .undef, .undef, .undef, .undef, .undef, .undef, .undef, .undef, .undef, .undef, .undef, .undef, .undef, .undef, .undef, .undef, .undef, .undef, .undef, .undef, .undef, .undef, .undef, .undef, .undef, .undef, .undef, .undef, .undef, .undef, .undef, .undef, .undef, .undef, .undef, .undef, .undef, .undef, .undef, .undef, .undef, .undef, .undef, .undef, .undef, .undef, .undef, .undef, .undef], [some w.cs], 0⟩) (fun i => RL.length - i) 0 (Nat.zero_le _) ?_ (fun i hi => ?_)
   · refine Weak.cut (1) (by simp) (by simp) ?_ ?_
     · simp [LeC, LeV, ren, cutF, IntS.sl, hls]
     · simp [cutH, cutB, cutF, ren, map_ren_rows, Watch.cs]
   simp -implicitDefEqProofs -dsimp only [go_sem, Watch.cs]
   refine condT.split (fun g1 => ?_) (fun g1 => ?_)
   · have hi' : i < RL.length := by simpa using g1
     have hr := rows_at IntS.csl hi'
     obtain ⟨b2, hb2⟩ := hrv RL[i] (List.getElem_mem hi')
     have ci := (iStepWatch_ok w 6 RL[i] 0 (by omega) (by omega)).weak (frzW _)
     rw [hb2] at ci
     simp only [stV, Option.getD_some, Option.isSome_some] at ci
     (repeat ((repeat1' (first | simp -implicitDefEqProofs -dsimp only [go_sem, g1, hr, IntS.cs, Watch.cs] | simp -dsimp (disch := omega) only [wrap_i64])); repeat (with_reducible refine sideA ?_)))
     (first | refine callT.at (ci) ⟨leA, leA, trivial⟩ ?_ | refine callS.at (ci) ⟨leA, leA, trivial⟩ ?_)
     (repeat ((repeat1' (first | simp -implicitDefEqProofs -dsimp only [go_sem, Watch.v] | simp -dsimp (disch := omega) only [wrap_i64])); repeat (with_reducible refine sideA ?_)))
     refine ⟨i + 1, hi', ?_, by omega⟩
     refine Weak.cut (1) (by simp) (by simp) ?_ ?_
     · simp [LeC, LeV, ren, cutF]
     · simp [cutH, cutB, cutF, ren, map_ren_rows, Watch.cs]
   · have hi' : i = RL.length := by simp at g1; omega
     subst hi'
     (repeat ((repeat1' (first | simp -implicitDefEqProofs -dsimp only [go_sem, g1, Watch.cs] | simp -dsimp (disch := omega) only [wrap_i64])); repeat (with_reducible refine sideA ?_)))
     refine callS.rel [] (drawPostsUp_ok hB) (by decide) ⟨leO, trivial⟩ rfl rfl (fun r hout hΦ => ?_)
     obtain ⟨x, hx, hxp, hxs, rfl, rfl⟩ := hΦ
     refine ⟨trivial, ?_⟩
     (repeat ((repeat1' (first | simp -implicitDefEqProofs -dsimp only [go_sem, Watch.v] | simp -dsimp (disch := omega) only [wrap_i64])); repeat (with_reducible refine sideA ?_)))
     have iu := (iPostsUp_ok x (by omega) (by omega)).weak (frzN _)
     have su := (sPostsUp_ok x (by omega) (by omega)).weak (frzO _)
     have il := iLongestDown_ok x (by omega) (by omega)
     have sl := sLongestDown_ok x (by omega) (by omega)
     obtain ⟨lst, ltk, lkn, e1, e2, e3⟩ := long_facts x
     rw [e1] at il sl
     have ul := upTo_len100 hxp
     have hvi := vInts_ok (upTo x.Posts x.Posts.length) (by omega)
     have hvh := vHas_ok (upTo x.Posts x.Posts.length) lst (by omega)
     cases hxb : wB x with
     | false =>
       have eu : upR x = none := by simp [upR, hxb]
       rw [hxb, Bool.false_and] at e2
       subst e2
       rw [eu] at iu su
       simp only [frzV, Option.getD_none, Option.isSome_none, List.length_nil] at iu su
       (first | refine callT.at (iu) ⟨leA, trivial⟩ ?_ | refine callS.at (iu) ⟨leA, trivial⟩ ?_)
       (repeat ((repeat1' (first | simp -implicitDefEqProofs -dsimp only [go_sem, Watch.v] | simp -dsimp (disch := omega) only [wrap_i64])); repeat (with_reducible refine sideA ?_)))
       (first | refine callT.at (su) ⟨leA, trivial⟩ ?_ | refine callS.at (su) ⟨leA, trivial⟩ ?_)
       (repeat ((repeat1' (first | simp -implicitDefEqProofs -dsimp only [go_sem, Watch.v] | simp -dsimp (disch := omega) only [wrap_i64])); repeat (with_reducible refine sideA ?_)))
       have hv0 := vInts_ok [] (by decide)
       (first | refine callT.at (hv0) ⟨leA, leA, trivial⟩ ?_ | refine callS.at (hv0) ⟨leA, leA, trivial⟩ ?_)
       (repeat ((repeat1' (first | simp -implicitDefEqProofs -dsimp only [go_sem, Watch.v] | simp -dsimp (disch := omega) only [wrap_i64])); repeat (with_reducible refine sideA ?_)))
       (first | refine callT.at (il) ⟨leA, trivial⟩ ?_ | refine callS.at (il) ⟨leA, trivial⟩ ?_)
       (repeat ((repeat1' (first | simp -implicitDefEqProofs -dsimp only [go_sem, Watch.v] | simp -dsimp (disch := omega) only [wrap_i64])); repeat (with_reducible refine sideA ?_)))
       (first | refine callT.at (sl) ⟨leA, trivial⟩ ?_ | refine callS.at (sl) ⟨leA, trivial⟩ ?_)
       (repeat ((repeat1' (first | simp -implicitDefEqProofs -dsimp only [go_sem] | simp -dsimp (disch := omega) only [wrap_i64])); repeat (with_reducible refine sideA ?_)))
       refine callS.rel [] (drawShockText_ok hB) (by decide) ⟨leO, trivial⟩ rfl rfl (fun r hout hΦ => ?_)
       obtain ⟨y, n, hy, hyp, hys, rfl, rfl⟩ := hΦ
       refine ⟨trivial, ?_⟩
       (repeat ((repeat1' (first | simp -implicitDefEqProofs -dsimp only [go_sem, Watch.v] | simp -dsimp (disch := omega) only [wrap_i64])); repeat (with_reducible refine sideA ?_)))
       have it := iShockText_ok y n (by omega) (by omega)
       have st := sShockText_ok y n (by omega) (by omega)
       obtain ⟨t, b, et⟩ := shockTextR_eq y n
       rw [et] at it st
       (first | refine callT.at (it) ⟨leA, leA, trivial⟩ ?_ | refine callS.at (it) ⟨leA, leA, trivial⟩ ?_)
       (repeat ((repeat1' (first | simp -implicitDefEqProofs -dsimp only [go_sem, Watch.v] | simp -dsimp (disch := omega) only [wrap_i64])); repeat (with_reducible refine sideA ?_)))
       (first | refine callT.at (st) ⟨leA, leA, trivial⟩ ?_ | refine callS.at (st) ⟨leA, leA, trivial⟩ ?_)
       cases b with
       | false =>
         (repeat ((repeat1' (first | simp -implicitDefEqProofs -dsimp only [go_sem] | simp -dsimp (disch := omega) only [wrap_i64])); repeat (with_reducible refine sideA ?_)))
         exact WeakR.drop' (by simp) (by rfl)
       | true =>
         (repeat ((repeat1' (first | simp -implicitDefEqProofs -dsimp only [go_sem] | simp -dsimp (disch := omega) only [wrap_i64])); repeat (with_reducible refine sideA ?_)))
         exact WeakR.drop' (by simp) (by rfl)
     | true =>
       have eu : upR x = some (upTo x.Posts x.Posts.length) := by simp [upR, hxb]
       rw [hxb, Bool.true_and] at e2
       rw [eu] at iu su
       simp only [frzV, Option.getD_some, Option.isSome_some] at iu su
       cases lkn with
       | false =>
         have hd : decide (((upTo x.Posts x.Posts.length).length : Int) < (x.Posts.length : Int)) = false := by
           have := of_decide_eq_false e2.symm
           exact decide_eq_false (by omega)
         (first | refine callT.at (iu) ⟨leA, trivial⟩ ?_ | refine callS.at (iu) ⟨leA, trivial⟩ ?_)
         (repeat ((repeat1' (first | simp -implicitDefEqProofs -dsimp only [go_sem, Watch.v] | simp -dsimp (disch := omega) only [wrap_i64])); repeat (with_reducible refine sideA ?_)))
         (first | refine callT.at (su) ⟨leA, trivial⟩ ?_ | refine callS.at (su) ⟨leA, trivial⟩ ?_)
         (repeat ((repeat1' (first | simp -implicitDefEqProofs -dsimp only [go_sem, Watch.v] | simp -dsimp (disch := omega) only [wrap_i64])); repeat (with_reducible refine sideA ?_)))
         (first | refine callT.at (hvi) ⟨leA, leA, trivial⟩ ?_ | refine callS.at (hvi) ⟨leA, leA, trivial⟩ ?_)
         (repeat ((repeat1' (first | simp -implicitDefEqProofs -dsimp only [go_sem, Watch.v] | simp -dsimp (disch := omega) only [wrap_i64])); repeat (with_reducible refine sideA ?_)))
         (first | refine callT.at (il) ⟨leA, trivial⟩ ?_ | refine callS.at (il) ⟨leA, trivial⟩ ?_)
         (repeat ((repeat1' (first | simp -implicitDefEqProofs -dsimp only [go_sem, Watch.v] | simp -dsimp (disch := omega) only [wrap_i64])); repeat (with_reducible refine sideA ?_)))
         (first | refine callT.at (sl) ⟨leA, trivial⟩ ?_ | refine callS.at (sl) ⟨leA, trivial⟩ ?_)
         (repeat ((repeat1' (first | simp -implicitDefEqProofs -dsimp only [go_sem, hd] | simp -dsimp (disch := omega) only [wrap_i64])); repeat (with_reducible refine sideA ?_)))
         refine callS.rel [] (drawShockText_ok hB) (by decide) ⟨leO, trivial⟩ rfl rfl (fun r hout hΦ => ?_)
         obtain ⟨y, n, hy, hyp, hys, rfl, rfl⟩ := hΦ
         refine ⟨trivial, ?_⟩
         (repeat ((repeat1' (first | simp -implicitDefEqProofs -dsimp only [go_sem, Watch.v] | simp -dsimp (disch := omega) only [wrap_i64])); repeat (with_reducible refine sideA ?_)))
         have it := iShockText_ok y n (by omega) (by omega)
         have st := sShockText_ok y n (by omega) (by omega)
         obtain ⟨t, b, et⟩ := shockTextR_eq y n
         rw [et] at it st
         (first | refine callT.at (it) ⟨leA, leA, trivial⟩ ?_ | refine callS.at (it) ⟨leA, leA, trivial⟩ ?_)
         (repeat ((repeat1' (first | simp -implicitDefEqProofs -dsimp only [go_sem, Watch.v] | simp -dsimp (disch := omega) only [wrap_i64])); repeat (with_reducible refine sideA ?_)))
         (first | refine callT.at (st) ⟨leA, leA, trivial⟩ ?_ | refine callS.at (st) ⟨leA, leA, trivial⟩ ?_)
         cases b with
         | false =>
           (repeat ((repeat1' (first | simp -implicitDefEqProofs -dsimp only [go_sem] | simp -dsimp (disch := omega) only [wrap_i64])); repeat (with_reducible refine sideA ?_)))
           exact WeakR.drop' (by simp) (by rfl)
         | true =>
           (repeat ((repeat1' (first | simp -implicitDefEqProofs -dsimp only [go_sem] | simp -dsimp (disch := omega) only [wrap_i64])); repeat (with_reducible refine sideA ?_)))
           exact WeakR.drop' (by simp) (by rfl)
       | true =>
         have hd : decide (((upTo x.Posts x.Posts.length).length : Int) < (x.Posts.length : Int)) = true := by
           have := of_decide_eq_true e2.symm
           exact decide_eq_true (by omega)
         obtain ⟨e4, e5⟩ := e3 rfl
         have ht : decide (ltk < 0) = false := decide_eq_false (by omega)
         have hany : ((upTo x.Posts x.Posts.length).any fun y => y == lst) = false := by
           rw [List.any_eq_false]
           intro y hy
           have : y ≠ lst := fun e => e5 (e ▸ hy)
           simpa using this
         rw [hany] at hvh
         (first | refine callT.at (iu) ⟨leA, trivial⟩ ?_ | refine callS.at (iu) ⟨leA, trivial⟩ ?_)
         (repeat ((repeat1' (first | simp -implicitDefEqProofs -dsimp only [go_sem, Watch.v] | simp -dsimp (disch := omega) only [wrap_i64])); repeat (with_reducible refine sideA ?_)))
         (first | refine callT.at (su) ⟨leA, trivial⟩ ?_ | refine callS.at (su) ⟨leA, trivial⟩ ?_)
         (repeat ((repeat1' (first | simp -implicitDefEqProofs -dsimp only [go_sem, Watch.v] | simp -dsimp (disch := omega) only [wrap_i64])); repeat (with_reducible refine sideA ?_)))
         (first | refine callT.at (hvi) ⟨leA, leA, trivial⟩ ?_ | refine callS.at (hvi) ⟨leA, leA, trivial⟩ ?_)
         (repeat ((repeat1' (first | simp -implicitDefEqProofs -dsimp only [go_sem, Watch.v] | simp -dsimp (disch := omega) only [wrap_i64])); repeat (with_reducible refine sideA ?_)))
         (first | refine callT.at (il) ⟨leA, trivial⟩ ?_ | refine callS.at (il) ⟨leA, trivial⟩ ?_)
         (repeat ((repeat1' (first | simp -implicitDefEqProofs -dsimp only [go_sem, Watch.v] | simp -dsimp (disch := omega) only [wrap_i64])); repeat (with_reducible refine sideA ?_)))
         (first | refine callT.at (sl) ⟨leA, trivial⟩ ?_ | refine callS.at (sl) ⟨leA, trivial⟩ ?_)
         (repeat ((repeat1' (first | simp -implicitDefEqProofs -dsimp only [go_sem, hd, ht] | simp -dsimp (disch := omega) only [wrap_i64])); repeat (with_reducible refine sideA ?_)))
         (first | refine callT.at (hvh) ⟨leA, leA, trivial⟩ ?_ | refine callS.at (hvh) ⟨leA, leA, trivial⟩ ?_)
         (repeat ((repeat1' (first | simp -implicitDefEqProofs -dsimp only [go_sem] | simp -dsimp (disch := omega) only [wrap_i64])); repeat (with_reducible refine sideA ?_)))
         refine callS.rel [] (drawShockText_ok hB) (by decide) ⟨leO, trivial⟩ rfl rfl (fun r hout hΦ => ?_)
         obtain ⟨y, n, hy, hyp, hys, rfl, rfl⟩ := hΦ
         refine ⟨trivial, ?_⟩
         (repeat ((repeat1' (first | simp -implicitDefEqProofs -dsimp only [go_sem, Watch.v] | simp -dsimp (disch := omega) only [wrap_i64])); repeat (with_reducible refine sideA ?_)))
         have it := iShockText_ok y n (by omega) (by omega)
         have st := sShockText_ok y n (by omega) (by omega)
         obtain ⟨t, b, et⟩ := shockTextR_eq y n
         rw [et] at it st
         (first | refine callT.at (it) ⟨leA, leA, trivial⟩ ?_ | refine callS.at (it) ⟨leA, leA, trivial⟩ ?_)
         (repeat ((repeat1' (first | simp -implicitDefEqProofs -dsimp only [go_sem, Watch.v] | simp -dsimp (disch := omega) only [wrap_i64])); repeat (with_reducible refine sideA ?_)))
         (first | refine callT.at (st) ⟨leA, leA, trivial⟩ ?_ | refine callS.at (st) ⟨leA, leA, trivial⟩ ?_)
         cases b with
         | false =>
           (repeat ((repeat1' (first | simp -implicitDefEqProofs -dsimp only [go_sem] | simp -dsimp (disch := omega) only [wrap_i64])); repeat (with_reducible refine sideA ?_)))
           exact WeakR.drop' (by simp) (by rfl)
         | true =>
           (repeat ((repeat1' (first | simp -implicitDefEqProofs -dsimp only [go_sem] | simp -dsimp (disch := omega) only [wrap_i64])); repeat (with_reducible refine sideA ?_)))
           exact WeakR.drop' (by simp) (by rfl)
end Go.Proofs
end
section
open Go.ChangeShapes Go.WideShapes
namespace Go.Lv

def ShC (P : Program) : Nat → TypeId → List V → Prop
 | 0, _, _ => False
 | n + 1, t, xs =>
   match P.underlying t with
   | some .bool => ∃ b, xs = [.bool b]
   | some (.int k) => ∃ z, xs = [.int k z] ∧ (Lit.int k z).wf = true
   | some .string => ∃ s : ByteArray, xs = [.str s] ∧ s.size ≤ maxLen
   | some (.slice e) => ∃ l cs, xs = [.sl l (P.cellsOf e) cs] ∧ l ≤ maxLen ∧ cs.length = l * P.cellsOf e ∧ ∀ i, i < l → ShC P n e ((cs.drop (i * P.cellsOf e)).take (P.cellsOf e))
   | some (.struct fs) => xs.length = P.cellsOf t ∧ ∀ f ∈ fs.toList, ShC P n f.type ((xs.drop f.offset).take (P.cellsOf f.type))
   | _ => False

def tiled (P : Program) : List Field → Nat → Nat → Bool
 | [], off, n => off == n
 | f :: fs, off, n => f.offset == off && tiled P fs (off + P.cellsOf f.type) n

def plainT (P : Program) : Nat → TypeId → Bool
 | 0, _ => false
 | n + 1, t =>
   match P.underlying t with
   | some .bool => true
   | some (.int _) => true
   | some .string => true
   | some (.slice e) => decide (0 < P.cellsOf e) && plainT P n e
   | some (.struct fs) => tiled P fs.toList 0 (P.cellsOf t) && fs.toList.all fun f => plainT P n f.type
   | _ => false

section
variable {P : Program} {w : World} {m : Nat → Nat}

def Rds (w : World) (m : Nat → Nat) (cs : List Value) (xs : List V) : Prop :=
 cs.length = xs.length ∧ ∀ i (hi : i < xs.length), RV w m [] (fun _ => False) false (cs.getD i Go.undef) xs[i]

theorem Rds.append {a b : List Value} {x y : List V} (h : Rds w m a x) (k : Rds w m b y) : Rds w m (a ++ b) (x ++ y) := by
 refine ⟨by simp [h.1, k.1], fun i hi => ?_⟩
 by_cases hlt : i < x.length
 · rw [List.getElem_append_left hlt]
   have := h.2 i hlt
   rw [List.getD_eq_getElem?_getD, List.getElem?_append_left (by rw [h.1]; exact hlt), ← List.getD_eq_getElem?_getD]
   exact this
 · rw [List.getElem_append_right (by omega)]
   have := k.2 (i - x.length) (by simp at hi; omega)
   rw [List.getD_eq_getElem?_getD, List.getElem?_append_right (by rw [h.1]; omega), ← List.getD_eq_getElem?_getD, h.1]
   exact this

theorem Rds.one {v : Value} {x : V} (h : RV w m [] (fun _ => False) false v x) : Rds w m [v] [x] :=
 ⟨rfl, fun i hi => by have : i = 0 := by simp at hi; omega
                      subst this; exact h⟩

theorem Rds.nil : Rds w m [] [] := ⟨rfl, fun i hi => by simp at hi⟩

theorem fields_sh {n : Nat} {cs : List Value} : ∀ (fs : List Field) (off : Nat), tiled P fs off cs.length = true → off ≤ cs.length →
   (∀ f ∈ fs, ∃ xs, Rds w m ((cs.drop f.offset).take (P.cellsOf f.type)) xs ∧ ShC P n f.type xs) →
   ∃ ys, Rds w m (cs.drop off) ys ∧ ∀ f ∈ fs, off ≤ f.offset ∧ ShC P n f.type ((ys.drop (f.offset - off)).take (P.cellsOf f.type))
 | [], off, ht, _, _ => by
   simp [tiled] at ht
   subst ht
   refine ⟨[], ?_, fun f hf => by simp at hf⟩
   rw [List.drop_of_length_le (Nat.le_refl _)]
   exact Rds.nil
 | f :: fs, off, ht, hle, h => by
   simp only [tiled, Bool.and_eq_true, beq_iff_eq] at ht
   obtain ⟨rfl, ht⟩ := ht
   have hlen : ∀ (fs : List Field) (o : Nat), tiled P fs o cs.length = true → o ≤ cs.length := by
     intro fs
     induction fs with
     | nil => intro o ht; simp [tiled] at ht; omega
     | cons g fs ih =>
       intro o ht
       simp only [tiled, Bool.and_eq_true, beq_iff_eq] at ht
       have := ih _ ht.2; omega
   have hk := hlen fs _ ht
   obtain ⟨x, hx1, hx2⟩ := h f (by simp)
   obtain ⟨ys, hy1, hy2⟩ := fields_sh fs _ ht hk (fun g hg => h g (by simp [hg]))
   have hxl : x.length = P.cellsOf f.type := by rw [← hx1.1]; simp; omega
   refine ⟨x ++ ys, ?_, fun g hg => ?_⟩
   · have : cs.drop f.offset = (cs.drop f.offset).take (P.cellsOf f.type) ++ cs.drop (f.offset + P.cellsOf f.type) := by
       rw [← List.drop_drop, List.take_append_drop]
     rw [this]
     exact hx1.append hy1
   · rcases List.mem_cons.1 hg with rfl | hg
     · refine ⟨Nat.le_refl _, ?_⟩
       rw [Nat.sub_self, List.drop_zero, List.take_append_of_le_length (by omega), List.take_of_length_le (by omega)]
       exact hx2
     · obtain ⟨h1, h2⟩ := hy2 g hg
       refine ⟨by omega, ?_⟩
       have : (x ++ ys).drop (g.offset - f.offset) = ys.drop (g.offset - (f.offset + P.cellsOf f.type)) := by
         rw [List.drop_append, List.drop_of_length_le (by omega), List.nil_append]
         congr 1
         omega
       rw [this]
       exact h2

theorem elems_sh {n e : Nat} {b off len : Nat} (h : ∀ i, i < len → ∃ cs xs, cs.length = P.cellsOf e ∧ (∀ j, j < P.cellsOf e → w.cell? ⟨b, off + (i * P.cellsOf e + j), none⟩ = cs[j]?) ∧ Rds w m cs xs ∧ ShC P n e xs) :
   ∀ k, k ≤ len → ∃ xs : List V, xs.length = k * P.cellsOf e ∧ (∀ j (hj : j < xs.length), ∃ v, w.cell? ⟨b, off + j, none⟩ = some v ∧ RV w m [] (fun _ => False) false v xs[j]) ∧
     ∀ i, i < k → ShC P n e ((xs.drop (i * P.cellsOf e)).take (P.cellsOf e))
 | 0, _ => ⟨[], by simp, fun j hj => by simp at hj, fun i hi => by omega⟩
 | k + 1, hk => by
   obtain ⟨xs, h1, h2, h3⟩ := elems_sh h k (by omega)
   obtain ⟨cs, ys, g1, g2, g3, g4⟩ := h k (by omega)
   have hyl : ys.length = P.cellsOf e := by rw [← g3.1, g1]
   refine ⟨xs ++ ys, by simp [h1, hyl, Nat.add_mul], fun j hj => ?_, fun i hi => ?_⟩
   · by_cases hlt : j < xs.length
     · rw [List.getElem_append_left hlt]
       exact h2 j hlt
     · rw [List.getElem_append_right (by omega)]
       have hj' : j - xs.length < ys.length := by simp at hj; omega
       have hr := g3.2 _ hj'
       have hc := g2 (j - xs.length) (by omega)
       have e1 : off + (k * P.cellsOf e + (j - xs.length)) = off + j := by omega
       rw [e1] at hc
       have hcl : j - xs.length < cs.length := by omega
       rw [List.getElem?_eq_getElem hcl] at hc
       refine ⟨_, hc, ?_⟩
       simpa [List.getD_eq_getElem?_getD, hcl] using hr
   · by_cases e2 : i = k
     · subst e2
       rw [← h1, List.drop_left, List.take_of_length_le (by omega)]
       exact g4
     · have hm : i * P.cellsOf e + P.cellsOf e ≤ xs.length := mul_room (n := k) (by omega) h1
       rw [List.drop_append_of_le_length (by omega), List.take_append_of_le_length (by simp; omega)]
       exact h3 i (by omega)

theorem trod_sh {H : Type} {enc : TypeId × Value → H} {spare : Nat → Bool} {held : Bool} : ∀ (n : Nat) (fuel : Nat) (t : TypeId) (cs : List Value) (x : DataW H × List MemPlace),
   DataW.trod enc P w 0 spare held fuel t cs = some x → plainT P n t = true → ∃ xs, Rds w m cs xs ∧ ShC P n t xs
 | 0, fuel, t, cs, x, _, hp => by simp [plainT] at hp
 | n + 1, fuel, t, cs, x, hx, hp => by
   unfold plainT at hp
   split at hp
   · rename_i hu
     obtain ⟨b, rfl, _⟩ := DataW.trod_bool hu hx
     exact ⟨[.bool b], Rds.one (.bool b), by unfold ShC; rw [hu]; exact ⟨b, rfl⟩⟩
   · rename_i k hu
     obtain ⟨z, rfl, _, hw⟩ := DataW.trod_int hu hx
     exact ⟨[.int k z], Rds.one (.int k z), by unfold ShC; rw [hu]; exact ⟨z, rfl, hw⟩⟩
   · rename_i hu
     obtain ⟨s, rfl, _, hs⟩ := DataW.trod_string hu hx
     exact ⟨[.str s], Rds.one (.str s), by unfold ShC; rw [hu]; exact ⟨s, rfl, hs⟩⟩
   · rename_i e hu
     simp only [Bool.and_eq_true, decide_eq_true_eq] at hp
     obtain ⟨hpos, hp⟩ := hp
     rcases Deep.open_slice hu hx with ⟨rfl, _⟩ | ⟨a, len, cap, mm, f, D, Pl, rfl, _, hle, hcap, hmm, _, hel⟩
     · refine ⟨[.sl 0 (P.cellsOf e) []], Rds.one (.slz _ _ _), ?_⟩
       unfold ShC; rw [hu]
       exact ⟨0, [], rfl, Nat.zero_le _, by simp, fun i hi => by omega⟩
     · by_cases h0 : len = 0
       · subst h0
         refine ⟨[.sl 0 (P.cellsOf e) []], Rds.one (.slz _ _ _), ?_⟩
         unfold ShC; rw [hu]
         exact ⟨0, [], rfl, Nat.zero_le _, by simp, fun i hi => by omega⟩
       · have hml : len ≤ mm := by rw [hmm]; split <;> omega
         obtain ⟨b, off, spot⟩ := a
         have hspot : spot = none := by
           obtain ⟨cs', hc, _⟩ := hel 0 (by omega)
           obtain ⟨_, hcl, hat⟩ := World.cells?_some hc
           have h1 := hat 0 hpos
           rw [List.getElem?_eq_getElem (by omega)] at h1
           simpa [Addr.add] using World.cell?_spot h1
         subst hspot
         have hall : ∀ i, i < len → ∃ cs xs, cs.length = P.cellsOf e ∧ (∀ j, j < P.cellsOf e → w.cell? ⟨b, off + (i * P.cellsOf e + j), none⟩ = cs[j]?) ∧ Rds w m cs xs ∧ ShC P n e xs := by
           intro i hi
           obtain ⟨cs', hc, ht⟩ := hel i (by omega)
           obtain ⟨_, hcl, hat⟩ := World.cells?_some hc
           obtain ⟨xs, h1, h2⟩ := trod_sh n _ e cs' _ ht hp
           refine ⟨cs', xs, hcl, fun j hj => ?_, h1, h2⟩
           have := hat j hj
           rw [Addr.add_lit, Addr.add_lit] at this
           rw [← this, Nat.add_assoc]
         obtain ⟨xs, h1, h2, h3⟩ := elems_sh hall len (Nat.le_refl _)
         refine ⟨[.sl len (P.cellsOf e) xs], Rds.one (.sl b off len cap (P.cellsOf e) xs (fun j => (w.cell? ⟨b, off + j, none⟩).getD Go.undef) h1 (fun _ h => h) hle (fun j hj => ?_) (fun j hj => ?_)), ?_⟩
         · obtain ⟨v, hv, _⟩ := h2 j hj
           simp [hv]
         · obtain ⟨v, hv, hr⟩ := h2 j hj
           simpa [hv] using hr
         · unfold ShC; rw [hu]
           exact ⟨len, xs, rfl, by omega, h1, h3⟩
   · rename_i fs hu
     simp only [Bool.and_eq_true, List.all_eq_true] at hp
     obtain ⟨xs, f, _, _, hl, hxl, hf⟩ := DataW.trod_struct hu hx
     have hfs : ∀ g ∈ fs.toList, ∃ ys, Rds w m ((cs.drop g.offset).take (P.cellsOf g.type)) ys ∧ ShC P n g.type ys := by
       intro g hg
       obtain ⟨i, hi, rfl⟩ := List.getElem_of_mem hg
       have hi' : i < fs.size := by simpa using hi
       have h1 := hf i fs[i] (Array.getElem?_eq_getElem hi')
       rw [List.getElem?_eq_getElem (by omega)] at h1
       exact trod_sh n _ _ _ _ (by simpa using h1) (hp.2 _ hg)
     obtain ⟨ys, h1, h2⟩ := fields_sh fs.toList 0 (by rw [hl]; exact hp.1) (Nat.zero_le _) hfs
     rw [List.drop_zero] at h1
     refine ⟨ys, h1, ?_⟩
     unfold ShC; rw [hu]
     exact ⟨by rw [← h1.1, hl], fun g hg => by simpa using (h2 g hg).2⟩
   · cases hp

end
section
variable {P : Program} {W : World}

theorem Rds.get {m : Nat → Nat} {a : List Value} {x : List V} (h : Rds W m a x) : a.length = x.length := h.1

theorem arg_one {H : Type} {enc : TypeId × Value → H} {spare : Nat → Bool} {held : Bool} {n : Nat} {t : TypeId} {v : Value} {d : DataW H} {p : List MemPlace} (m : Nat → Nat)
   (hv : v.cells = #[v]) (h : DataW.Trod enc P W 0 spare held t v d p) (hp : plainT P n t = true) : ∃ x, RV W m [] (fun _ => False) true v x ∧ ShC P n t [x] := by
 obtain ⟨fuel, hf⟩ := h
 rw [hv] at hf
 obtain ⟨xs, h1, h2⟩ := trod_sh (m := m) n fuel t _ _ hf hp
 match xs, h1 with
 | [x], h1 => exact ⟨x, by have := h1.2 0 (by simp); exact this.weak, h2⟩
 | [], h1 => simp [Rds] at h1
 | _ :: _ :: _, h1 => simp [Rds] at h1

theorem law_walk {f : FuncId} {xs : List V} {vs : Array Value} (m : Nat → Nat) (hc : Ctr P f xs [] (.bool true) []) (hgl : GL W (fun _ => False)) (hsz : vs.size = xs.length)
   (hr : ∀ i (hi : i < xs.length), RV W m [] (fun _ => False) true (vs.getD i Go.undef) xs[i]) :
   Calls P f vs W fun e w' => e = .returned (.bool true) ∧ RowKit.Below W.heap.size W w' := by
 refine (hc.2 W vs m (fun _ => False) ⟨fun i j ci cj h => by simp at h, fun id cs h => by simp at h, fun id cs h => by simp at h⟩ (fun b h => h.elim) hgl hsz hr).mono ?_
 rintro e w' ⟨v, m', rfl, hE, _, hv, _⟩
 refine ⟨by cases hv; rfl, hE.os, hE.tape, hE.output, hE.size, fun k hk => hE.block k hk (fun ⟨id, cs, h, _⟩ => by simp at h)⟩

end
end Go.Lv
end
section
namespace Go.Lv

theorem shC_u8 {P : Program} {t : TypeId} {n : Nat} {xs : List V} (hs : P.underlying t = some (.int .u8)) (h : ShC P (n + 1) t xs) : ∃ z, xs = [.int .u8 z] ∧ 0 ≤ z ∧ z ≤ 255 := by
 simp only [ShC, hs] at h
 obtain ⟨z, h1, h2⟩ := h
 refine ⟨z, h1, ?_⟩
 simp [Lit.wf, IntKind.min, IntKind.max, IntKind.signed, IntKind.bits] at h2
 exact h2

theorem shC_list {P : Program} {t e : TypeId} {n : Nat} {xs : List V} (hs : P.underlying t = some (.slice e)) {α : Type} {cs : α → List V} {w : Nat} (hw : P.cellsOf e = w) {ok : α → Prop}
   (he : ∀ ys, ShC P n e ys → ∃ a, ys = cs a ∧ ok a) (h : ShC P (n + 1) t xs) : ∃ L : List α, xs = [.sl L.length w (rows cs L)] ∧ lstR ok L := by
 simp only [ShC, hs, hw] at h
 obtain ⟨l, ys, rfl, hl, hlen, hel⟩ := h
 suffices ∀ (l : Nat) (ys : List V), ys.length = l * w → (∀ i, i < l → ShC P n e ((ys.drop (i * w)).take w)) → ∃ L : List α, L.length = l ∧ rows cs L = ys ∧ ∀ x ∈ L, ok x by
   obtain ⟨L, h1, h2, h3⟩ := this l ys hlen hel
   exact ⟨L, by rw [h1, h2], by rw [h1]; exact hl, h3⟩
 intro l
 induction l with
 | zero => intro ys h1 _; exact ⟨[], rfl, by simp at h1; simp [rows, h1], fun x hx => by simp at hx⟩
 | succ l ih =>
   intro ys h1 h2
   obtain ⟨a, ha, hoa⟩ := he _ (h2 0 (by omega))
   rw [Nat.zero_mul, List.drop_zero] at ha
   obtain ⟨L, h3, h4, h5⟩ := ih (ys.drop w) (by rw [List.length_drop, h1, Nat.succ_mul]; omega) (fun i hi => by
     have := h2 (i + 1) (by omega)
     rw [List.drop_drop]
     rwa [Nat.succ_mul, Nat.add_comm] at this)
   refine ⟨a :: L, by simp [h3], ?_, ?_⟩
   · rw [rows_cons, h4, ← ha, List.take_append_drop]
   · intro x hx
     rcases List.mem_cons.1 hx with rfl | hx
     · exact hoa
     · exact h5 x hx

end Go.Lv
end
