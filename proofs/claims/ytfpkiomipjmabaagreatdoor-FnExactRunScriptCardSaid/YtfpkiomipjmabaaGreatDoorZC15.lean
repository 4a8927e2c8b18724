/-
  A part of the proof: texts put together by a program of the prover. Conditions: none.
-/
import Derived.Test.YtfpkiomipjmabaaGreatDoorZC9
import Derived.Test.YtfpkiomipjmabaaGreatDoorZC11
import Derived.Test.YtfpkiomipjmabaaGreatDoorZC13
import Derived.Test.YtfpkiomipjmabaaGreatDoorZC14
set_option linter.unusedSimpArgs false
set_option linter.unusedVariables false
section
set_option maxRecDepth 100000
namespace Go.Proofs
open Go.Lv
def qh (now : Int) (p : az) : Bool := eb p.Station 1 99 && eb p.Since 0 now
def kf (next now : Int) (x : an) : Bool := eb x.Number 1 (next - 1) && eb x.State 0 3 && eb x.Seen 0 8 && eb x.Size (-20) 95 && (x.State != 0 || x.Size == 0) && eb x.Tick 0 now
def iv (w : ab) : Bool := eb w.Now 0 1000000 && eb w.Next 1 999 && eb w.Archived 0 999
def wB (w : ab) : Bool := iv w && gh (qh w.Now) az.Station 8 w.Posts && gh (kf w.Next w.Now) an.Number 6 w.Shocks
theorem uq {w : ab} : iv w = true ↔ (0 ≤ w.Now ∧ w.Now ≤ 1000000) ∧ (1 ≤ w.Next ∧ w.Next ≤ 999) ∧ 0 ≤ w.Archived ∧ w.Archived ≤ 999 := by simp [iv, eb, and_assoc]
theorem ov {now : Int} {p : az} : qh now p = true ↔ (1 ≤ p.Station ∧ p.Station ≤ 99) ∧ 0 ≤ p.Since ∧ p.Since ≤ now := by simp [qh, eb, and_assoc]
theorem gq {next now : Int} {x : an} : kf next now x = true ↔ (1 ≤ x.Number ∧ x.Number ≤ next - 1) ∧ (0 ≤ x.State ∧ x.State ≤ 3) ∧ (0 ≤ x.Seen ∧ x.Seen ≤ 8) ∧ (-20 ≤ x.Size ∧ x.Size ≤ 95) ∧ (x.State ≠ 0 ∨ x.Size = 0) ∧ 0 ≤ x.Tick ∧ x.Tick ≤ now := by
 simp [kf, eb, and_assoc]
structure as8 (w : ab) : Prop where
 now : 0 ≤ w.Now ∧ w.Now ≤ 1000000
 next : 1 ≤ w.Next ∧ w.Next ≤ 999
 arch : 0 ≤ w.Archived ∧ w.Archived ≤ 999
 posts : ∀ p ∈ w.Posts, qh w.Now p = true
 plen : w.Posts.length ≤ 8
 shocks : ∀ x ∈ w.Shocks, kf w.Next w.Now x = true
 slen : w.Shocks.length ≤ 6
 pasc : (w.Posts.map az.Station).Pairwise (· < ·)
 sasc : (w.Shocks.map an.Number).Pairwise (· < ·)
theorem dt {w : ab} (h : wB w = true) : as8 w := by
 simp only [wB, Bool.and_eq_true] at h
 obtain ⟨⟨h1, h2⟩, h3⟩ := h
 obtain ⟨a, b, c⟩ := uq.1 h1
 obtain ⟨d, e⟩ := aa0 h2
 obtain ⟨f, g⟩ := aa0 h3
 exact ⟨a, b, c, d, e, f, g, ad7 h2, ad7 h3⟩
theorem afz (w : ab) (p : az) : Ctr Tryz.prog 163 [p.v, .pt w.cs] [] (.bool (qh w.Now p)) [] := by
 refine Ctr.intro Tryz.mixed Tryz.func163 rfl Tryz.awd ?_
 simp -implicitDefEqProofs -dsimp only [go_sem, Tryz.ntmps163, Tryz.results163]
 simp -implicitDefEqProofs -dsimp only [go_sem, az.v, ab.cs]
 repeat' (first | (refine al.ax ?_ (by rfl); first | rfl | (simp [qh, *]; done)) | ((first | refine ak.at (jy _ _ _) ⟨leA, leA, leA, trivial⟩ ?_ | refine aj.at (jy _ _ _) ⟨leA, leA, leA, trivial⟩ ?_); simp -implicitDefEqProofs -dsimp only [go_sem, *]) | ((first | refine ak.at (uj _) ⟨leA, trivial⟩ ?_ | refine aj.at (uj _) ⟨leA, trivial⟩ ?_); simp -implicitDefEqProofs -dsimp only [go_sem, *]) | (refine a8.bu (fun _ => ?_) (fun _ => ?_) <;> simp -implicitDefEqProofs -dsimp only [go_sem, *]) | (refine a8.ch (fun _ => ?_) (fun _ => ?_) <;> simp -implicitDefEqProofs -dsimp only [go_sem, *]) | (refine bd.split (fun _ => ?_) (fun _ => ?_) <;> simp -implicitDefEqProofs -dsimp only [go_sem, *]))
theorem ab7 (w : ab) (hw : 1 ≤ w.Next ∧ w.Next ≤ 999) (x : an) : Ctr Tryz.prog 165 [x.v, .pt w.cs] [] (.bool (kf w.Next w.Now x)) [] := by
 refine Ctr.intro Tryz.mixed Tryz.func165 rfl Tryz.aw1 ?_
 simp -implicitDefEqProofs -dsimp only [go_sem, Tryz.ntmps165, Tryz.results165]
 simp -implicitDefEqProofs -dsimp only [go_sem, an.v, ab.cs]
 have hw1 : IntKind.i64.wrap (w.Next - 1) = w.Next - 1 := wrap_i64 (by omega) (by omega)
 repeat' (first | (refine al.ax ?_ (by rfl); first | rfl | (simp [kf, *]; done)) | ((first | refine ak.at (jy _ _ _) ⟨leA, leA, leA, trivial⟩ ?_ | refine aj.at (jy _ _ _) ⟨leA, leA, leA, trivial⟩ ?_); simp -implicitDefEqProofs -dsimp only [go_sem, *]) | ((first | refine ak.at (ly _) ⟨leA, trivial⟩ ?_ | refine aj.at (ly _) ⟨leA, trivial⟩ ?_); simp -implicitDefEqProofs -dsimp only [go_sem, *]) | (refine a8.bu (fun _ => ?_) (fun _ => ?_) <;> simp -implicitDefEqProofs -dsimp only [go_sem, *]) | (refine a8.ch (fun _ => ?_) (fun _ => ?_) <;> simp -implicitDefEqProofs -dsimp only [go_sem, *]))
theorem ym (p : az) : Ctr Tryz.prog 168 [p.v] [] (.int .i64 p.Station) [] := by
 refine Ctr.intro Tryz.mixed Tryz.func168 rfl Tryz.axx ?_
 simp -implicitDefEqProofs -dsimp only [go_sem, Tryz.ntmps168, Tryz.results168]
 simp -implicitDefEqProofs -dsimp only [go_sem, az.v]
 exact al.ax rfl (by rfl)
theorem abd (x : an) : Ctr Tryz.prog 170 [x.v] [] (.int .i64 x.Number) [] := by
 refine Ctr.intro Tryz.mixed Tryz.func170 rfl Tryz.awb ?_
 simp -implicitDefEqProofs -dsimp only [go_sem, Tryz.ntmps170, Tryz.results170]
 simp -implicitDefEqProofs -dsimp only [go_sem, an.v]
 exact al.ax rfl (by rfl)
theorem de (w : ab) (hp : w.Posts.length ≤ 281474976710656) (hs : w.Shocks.length ≤ 281474976710656) : Ctr Tryz.prog 102 [w.v] [] (.bool (wB w)) [] := by
 refine Ctr.intro Tryz.mixed Tryz.func102 rfl Tryz.awf ?_
 simp -implicitDefEqProofs -dsimp only [go_sem, Tryz.ntmps102, Tryz.results102]
 simp -implicitDefEqProofs -dsimp only [go_sem, ab.v]
 have fin : ∀ b, b = wB w → al 0 (.bool b) [some w.cs] (.bool (wB w)) [] := fun b h => al.ax (by rw [h]) (by rfl)
 (first | refine ak.at (afh _) ⟨leA, trivial⟩ ?_ | refine aj.at (afh _) ⟨leA, trivial⟩ ?_)
 simp -implicitDefEqProofs -dsimp only [go_sem]
 refine a8.bu (fun h1 => ?_) (fun h1 => ?_) <;> simp -implicitDefEqProofs -dsimp only [go_sem, h1]
 rotate_left
 · exact al.ax (by simp [wB, iv, h1]) (by rfl)
 (first | refine ak.at (jy _ _ _) ⟨leA, leA, leA, trivial⟩ ?_ | refine aj.at (jy _ _ _) ⟨leA, leA, leA, trivial⟩ ?_)
 simp -implicitDefEqProofs -dsimp only [go_sem, h1]
 refine a8.bu (fun h2 => ?_) (fun h2 => ?_) <;> simp -implicitDefEqProofs -dsimp only [go_sem, h1, h2]
 rotate_left
 · exact al.ax (by simp [wB, iv, h1, h2]) (by rfl)
 (first | refine ak.at (jy _ _ _) ⟨leA, leA, leA, trivial⟩ ?_ | refine aj.at (jy _ _ _) ⟨leA, leA, leA, trivial⟩ ?_)
 simp -implicitDefEqProofs -dsimp only [go_sem, h1, h2]
 refine a8.bu (fun h3 => ?_) (fun h3 => ?_) <;> simp -implicitDefEqProofs -dsimp only [go_sem, h1, h2, h3]
 rotate_left
 · exact al.ax (by simp [wB, iv, h1, h2, h3]) (by rfl)
 have hc : iv w = true := by simp [iv, h1, h2, h3]
 have hw := (uq.1 hc).2.1
 (first | refine ak.at (sg w.Posts (qh w.Now) az.Station 8 _ _ [.pt w.cs] [] (fun d => by cases d <;> rfl) (fun _ => rfl) (fun x => afz w x) ym 8 rfl hp) ⟨leA, leA, leA, leA, trivial⟩ ?_ | refine aj.at (sg w.Posts (qh w.Now) az.Station 8 _ _ [.pt w.cs] [] (fun d => by cases d <;> rfl) (fun _ => rfl) (fun x => afz w x) ym 8 rfl hp) ⟨leA, leA, leA, leA, trivial⟩ ?_)
 simp -implicitDefEqProofs -dsimp only [go_sem, h1, h2, h3]
 refine a8.bu (fun h4 => ?_) (fun h4 => ?_) <;> simp -implicitDefEqProofs -dsimp only [go_sem, h1, h2, h3, h4]
 rotate_left
 · exact al.ax (by simp [wB, hc, h4]) (by rfl)
 (first | refine ak.at (qm w.Shocks (kf w.Next w.Now) an.Number 6 _ _ [.pt w.cs] [] (fun d => by cases d <;> rfl) (fun _ => rfl) (fun x => ab7 w hw x) abd 6 rfl hs) ⟨leA, leA, leA, leA, trivial⟩ ?_ | refine aj.at (qm w.Shocks (kf w.Next w.Now) an.Number 6 _ _ [.pt w.cs] [] (fun d => by cases d <;> rfl) (fun _ => rfl) (fun x => ab7 w hw x) abd 6 rfl hs) ⟨leA, leA, leA, leA, trivial⟩ ?_)
 simp -implicitDefEqProofs -dsimp only [go_sem, h1, h2, h3, h4]
 exact al.ax (by simp [wB, hc, h4]) (by rfl)
theorem ac1 {α : Type} {p : α → Bool} {k : α → Int} {m : Nat} {L : List α} (h : (List.range L.length).all (fw p k L) = true) (hm : L.length ≤ m) : gh p k m L = true := by
 simp [gh, h, hm]
theorem aa5 (w : ab) (hw : 1 ≤ w.Next ∧ w.Next ≤ 999) (x : an) : Ctr Tryz.prog 210 [w.v, x.v] [] (.bool (kf w.Next w.Now x)) [] := by
 refine Ctr.intro Tryz.mixed Tryz.func210 rfl Tryz.azi ?_
 simp -implicitDefEqProofs -dsimp only [go_sem, Tryz.ntmps210, Tryz.results210]
 simp -implicitDefEqProofs -dsimp only [go_sem, an.v, ab.v]
 have hw1 : IntKind.i64.wrap (w.Next - 1) = w.Next - 1 := wrap_i64 (by omega) (by omega)
 repeat' (first | (refine al.ax ?_ (by rfl); first | rfl | (simp [kf, *]; done)) | ((first | refine ak.at (ff _ _ _) ⟨leA, leA, leA, trivial⟩ ?_ | refine aj.at (ff _ _ _) ⟨leA, leA, leA, trivial⟩ ?_); simp -implicitDefEqProofs -dsimp only [go_sem, *]) | (refine a8.bu (fun _ => ?_) (fun _ => ?_) <;> simp -implicitDefEqProofs -dsimp only [go_sem, *]) | (refine a8.ch (fun _ => ?_) (fun _ => ?_) <;> simp -implicitDefEqProofs -dsimp only [go_sem, *]))
theorem dv (w : ab) (hp : w.Posts.length ≤ 281474976710656) (hs : w.Shocks.length ≤ 281474976710656) : Ctr Tryz.prog 153 [w.v] [] (.bool (wB w)) [] := by
 refine Ctr.intro Tryz.mixed Tryz.func153 rfl Tryz.awv ?_
 simp -implicitDefEqProofs -dsimp only [go_sem, Tryz.ntmps153, Tryz.results153]
 simp -implicitDefEqProofs -dsimp only [go_sem, ab.v]
 (first | refine ak.at (ae8 _) ⟨leA, trivial⟩ ?_ | refine aj.at (ae8 _) ⟨leA, trivial⟩ ?_)
 simp -implicitDefEqProofs -dsimp only [go_sem]
 refine a8.ch (fun h1 => ?_) (fun h1 => ?_) <;> simp -implicitDefEqProofs -dsimp only [go_sem, h1]
 rotate_left
 · exact al.ax (by simp at h1; simp [wB, iv, h1]) (by rfl)
 refine a8.ch (fun h2 => ?_) (fun h2 => ?_) <;> simp -implicitDefEqProofs -dsimp only [go_sem, h2]
 rotate_left
 · have : ¬ w.Posts.length ≤ 8 := by simp at h2; omega
   exact al.ax (by simp [wB, gh, this]) (by rfl)
 refine a8.ch (fun h3 => ?_) (fun h3 => ?_) <;> simp -implicitDefEqProofs -dsimp only [go_sem, h3]
 rotate_left
 · have : ¬ w.Shocks.length ≤ 6 := by simp at h3; omega
   exact al.ax (by simp [wB, gh, this]) (by rfl)
 (first | refine ak.at (ff _ _ _) ⟨leA, leA, leA, trivial⟩ ?_ | refine aj.at (ff _ _ _) ⟨leA, leA, leA, trivial⟩ ?_)
 simp -implicitDefEqProofs -dsimp only [go_sem]
 refine a8.ch (fun h4 => ?_) (fun h4 => ?_) <;> simp -implicitDefEqProofs -dsimp only [go_sem, h4]
 rotate_left
 · exact al.ax (by simp at h4; simp [wB, iv, h4]) (by rfl)
 (first | refine ak.at (ff _ _ _) ⟨leA, leA, leA, trivial⟩ ?_ | refine aj.at (ff _ _ _) ⟨leA, leA, leA, trivial⟩ ?_)
 simp -implicitDefEqProofs -dsimp only [go_sem]
 refine bd.split (fun h5 => ?_) (fun h5 => ?_) <;> simp -implicitDefEqProofs -dsimp only [go_sem, h5]
 · exact al.ax (by simp at h5; simp [wB, iv, h5]) (by rfl)
 have hc : iv w = true := by simp at h1 h4 h5; simp [iv, h1, h4, h5]
 have hcn := uq.1 hc
 have hpl : w.Posts.length ≤ 8 := by simp at h2; omega
 have hsl : w.Shocks.length ≤ 6 := by simp at h3; omega
 clear h1 h2 h3 h4 h5
 refine cw.intro (fun i : Nat => i ≤ (w.Posts).length ∧ (List.range i).all (fw (qh w.Now) az.Station (w.Posts)) = true) (fun i => ⟨[.undef, .ptr 0 0, .undef, .int .i64 i, .undef, .undef, .undef, .undef, .undef, .undef, .undef, .undef, .undef, .undef, .undef, .undef, .undef, .undef, .undef, .undef, .undef, .undef, .undef, .undef, .undef, .undef, .undef, .undef, .undef, .undef, .undef, .undef, .undef, .undef, .undef, .undef, .undef, .undef, .undef, .undef, .undef, .undef, .undef, .undef, .undef, .undef, .undef, .undef, .undef, .undef, .undef, .undef, .undef, .undef, .undef, .undef, .undef, .undef, .undef, .undef, .undef, .undef, .undef, .undef, .undef, .undef, .undef, .undef, .undef, .undef, .undef, .undef, .undef, .undef, .undef, .undef, .undef, .undef, .undef, .undef, .undef, .undef, .undef, .undef, .undef, .undef, .undef, .undef, .undef, .undef, .undef, .undef, .undef, .undef, .undef, .undef, .undef, .undef, .undef, .undef, .undef, .undef, .undef, .undef, .undef, .undef, .undef, .undef, .undef], [some w.cs], 0⟩) (fun i => (w.Posts).length - i) 0 ⟨Nat.zero_le _, rfl⟩ ?_ (fun i hi => ?_)
 · refine br.cut (1) (by simp) (by simp) ?_ ?_
   · simp [LeC, LeV, ren, bm]
   · first | rfl | simp [cb, db, ren, ae, ab.cs]
 simp -implicitDefEqProofs -dsimp only [go_sem, ab.cs]
 refine bd.split (fun h1 => ?_) (fun h1 => ?_)
 rotate_left
 · simp -implicitDefEqProofs -dsimp only [go_sem, h1, ab.cs]
   have hi' : i = (w.Posts).length := by simp at h1; omega
   subst hi'
   have hpq := ac1 hi.2 hpl
   refine cw.intro (fun i : Nat => i ≤ (w.Shocks).length ∧ (List.range i).all (fw (kf w.Next w.Now) an.Number (w.Shocks)) = true) (fun i => ⟨[.undef, .ptr 0 0, .undef, .undef, .undef, .int .i64 i, .undef, .undef, .undef, .undef, .undef, .undef, .undef, .undef, .undef, .undef, .undef, .undef, .undef, .undef, .undef, .undef, .undef, .undef, .undef, .undef, .undef, .undef, .undef, .undef, .undef, .undef, .undef, .undef, .undef, .undef, .undef, .undef, .undef, .undef, .undef, .undef, .undef, .undef, .undef, .undef, .undef, .undef, .undef, .undef, .undef, .undef, .undef, .undef, .undef, .undef, .undef, .undef, .undef, .undef, .undef, .undef, .undef, .undef, .undef, .undef, .undef, .undef, .undef, .undef, .undef, .undef, .undef, .undef, .undef, .undef, .undef, .undef, .undef, .undef, .undef, .undef, .undef, .undef, .undef, .undef, .undef, .undef, .undef, .undef, .undef, .undef, .undef, .undef, .undef, .undef, .undef, .undef, .undef, .undef, .undef, .undef, .undef, .undef, .undef, .undef, .undef, .undef, .undef], [some w.cs], 0⟩) (fun i => (w.Shocks).length - i) 0 ⟨Nat.zero_le _, rfl⟩ ?_ (fun i hi => ?_)
   · refine br.cut (1) (by simp) (by simp) ?_ ?_
     · simp [LeC, LeV, ren, bm]
     · first | rfl | simp [cb, db, ren, ae, ab.cs]
   simp -implicitDefEqProofs -dsimp only [go_sem, ab.cs]
   refine bd.split (fun h1 => ?_) (fun h1 => ?_)
   rotate_left
   · simp -implicitDefEqProofs -dsimp only [go_sem, h1, ab.cs]
     have hi' : i = (w.Shocks).length := by simp at h1; omega
     subst hi'
     exact al.ax (by rw [wB, hc, hpq, ac1 hi.2 hsl]; rfl) (by rfl)
   · simp -implicitDefEqProofs -dsimp only [go_sem, h1, ab.cs]
     have hi' : i < (w.Shocks).length := by simpa using h1
     have h5 := an.csl (w.Shocks)[i]
     have hr := bt an.csl hi'
     have hbad : fw (kf w.Next w.Now) an.Number (w.Shocks) i = false → _ := fun hq => (show V.bool false = V.bool (wB w) by rw [wB, jg hi' hq]; simp)
     cases i with
     | zero =>
       have hz : ((0 : Nat) : Int) = 0 := rfl
       have hr0 := hr
       rw [Nat.zero_mul, List.drop_zero] at hr0
       (repeat ((repeat1' (first | simp -implicitDefEqProofs -dsimp only [go_sem, hr, hr0, hz, an.cs, ab.cs] | simp -dsimp (disch := omega) only [wrap_i64])); repeat (with_reducible refine ah ?_)))
       repeat' (first | (refine al.ax (hbad ?_) (by rfl); (rw [j3 hi']; (try simp only [Bool.not_eq_false', Bool.not_eq_true', decide_eq_false_iff_not, decide_eq_true_eq] at *); simp [*]; try omega; done)) | ((have ct := aa5 w hcn.2.1 (w.Shocks[0]); (first | refine ak.at ct ⟨leA, leA, trivial⟩ ?_ | refine aj.at ct ⟨leA, leA, trivial⟩ ?_); clear ct); simp -implicitDefEqProofs -dsimp only [go_sem, *, ab.cs]) | (refine a8.bu (fun _ => ?_) (fun _ => ?_) <;> simp -implicitDefEqProofs -dsimp only [go_sem, *, ab.cs]) | (refine a8.ch (fun _ => ?_) (fun _ => ?_) <;> simp -implicitDefEqProofs -dsimp only [go_sem, *, ab.cs]) | (refine bd.split (fun _ => ?_) (fun _ => ?_) <;> simp -implicitDefEqProofs -dsimp only [go_sem, *, ab.cs]) | (with_reducible refine And.intro (by first | omega | (show bp _ = true; kernel_rfl)) ?_; (repeat ((repeat1' (first | simp -implicitDefEqProofs -dsimp only [go_sem, *, an.cs, ab.cs] | simp -dsimp (disch := omega) only [wrap_i64])); repeat (with_reducible refine ah ?_)))) | (refine ⟨0 + 1, ⟨hi', fo hi.2 (by rw [j3 hi']; (try simp only [Bool.not_eq_false', Bool.not_eq_true', decide_eq_false_iff_not, decide_eq_true_eq] at *); simp [*]; try omega)⟩, ?_, by omega⟩; refine br.cut (1) (by simp) (by simp) ?_ ?_; (· (try (repeat1' (first | simp -implicitDefEqProofs -dsimp only [go_sem] | simp -dsimp (disch := omega) only [wrap_i64])); simp [LeC, LeV, ren, bm]; try omega)); (· (first | rfl | simp [cb, db, ren, ae, ab.cs]))))
     | succ j =>
       have hj : j < (w.Shocks).length := by omega
       have hw1 : IntKind.i64.wrap (((j + 1 : Nat) : Int) - 1) = (j : Int) := by rw [wrap_i64 (by omega) (by omega)]; omega
       have hg : decide ((0 : Int) < ((j + 1 : Nat) : Int)) = true := decide_eq_true (by omega)
       have hr2 := bt an.csl hj
       (repeat ((repeat1' (first | simp -implicitDefEqProofs -dsimp only [go_sem, hr, hg, hw1, hr2, an.cs, ab.cs] | simp -dsimp (disch := omega) only [wrap_i64])); repeat (with_reducible refine ah ?_)))
       repeat' (first | (refine al.ax (hbad ?_) (by rfl); (rw [ga hi']; (try simp only [Bool.not_eq_false', Bool.not_eq_true', decide_eq_false_iff_not, decide_eq_true_eq] at *); simp [*]; try omega; done)) | ((have ct := aa5 w hcn.2.1 (w.Shocks[j + 1]); (first | refine ak.at ct ⟨leA, leA, trivial⟩ ?_ | refine aj.at ct ⟨leA, leA, trivial⟩ ?_); clear ct); simp -implicitDefEqProofs -dsimp only [go_sem, *, ab.cs]) | (refine a8.bu (fun _ => ?_) (fun _ => ?_) <;> simp -implicitDefEqProofs -dsimp only [go_sem, *, ab.cs]) | (refine a8.ch (fun _ => ?_) (fun _ => ?_) <;> simp -implicitDefEqProofs -dsimp only [go_sem, *, ab.cs]) | (refine bd.split (fun _ => ?_) (fun _ => ?_) <;> simp -implicitDefEqProofs -dsimp only [go_sem, *, ab.cs]) | (with_reducible refine And.intro (by first | omega | (show bp _ = true; kernel_rfl)) ?_; (repeat ((repeat1' (first | simp -implicitDefEqProofs -dsimp only [go_sem, *, an.cs, ab.cs] | simp -dsimp (disch := omega) only [wrap_i64])); repeat (with_reducible refine ah ?_)))) | (refine ⟨j + 1 + 1, ⟨hi', fo hi.2 (by rw [ga hi']; (try simp only [Bool.not_eq_false', Bool.not_eq_true', decide_eq_false_iff_not, decide_eq_true_eq] at *); simp [*]; try omega)⟩, ?_, by omega⟩; refine br.cut (1) (by simp) (by simp) ?_ ?_; (· (try (repeat1' (first | simp -implicitDefEqProofs -dsimp only [go_sem] | simp -dsimp (disch := omega) only [wrap_i64])); simp [LeC, LeV, ren, bm]; try omega)); (· (first | rfl | simp [cb, db, ren, ae, ab.cs]))))
 · simp -implicitDefEqProofs -dsimp only [go_sem, h1, ab.cs]
   have hi' : i < (w.Posts).length := by simpa using h1
   have h5 := az.csl (w.Posts)[i]
   have hr := bt az.csl hi'
   have hbad : fw (qh w.Now) az.Station (w.Posts) i = false → _ := fun hq => (show V.bool false = V.bool (wB w) by rw [wB, jg hi' hq]; simp)
   cases i with
   | zero =>
     have hz : ((0 : Nat) : Int) = 0 := rfl
     have hr0 := hr
     rw [Nat.zero_mul, List.drop_zero] at hr0
     (repeat ((repeat1' (first | simp -implicitDefEqProofs -dsimp only [go_sem, hr, hr0, hz, az.cs, ab.cs] | simp -dsimp (disch := omega) only [wrap_i64])); repeat (with_reducible refine ah ?_)))
     repeat' (first | (refine al.ax (hbad ?_) (by rfl); (rw [j3 hi']; (try simp only [Bool.not_eq_false', Bool.not_eq_true', decide_eq_false_iff_not, decide_eq_true_eq] at *); simp [qh, *]; try omega; done)) | ((first | refine ak.at (ff _ _ _) ⟨leA, leA, leA, trivial⟩ ?_ | refine aj.at (ff _ _ _) ⟨leA, leA, leA, trivial⟩ ?_); simp -implicitDefEqProofs -dsimp only [go_sem, *, ab.cs]) | (refine a8.bu (fun _ => ?_) (fun _ => ?_) <;> simp -implicitDefEqProofs -dsimp only [go_sem, *, ab.cs]) | (refine a8.ch (fun _ => ?_) (fun _ => ?_) <;> simp -implicitDefEqProofs -dsimp only [go_sem, *, ab.cs]) | (refine bd.split (fun _ => ?_) (fun _ => ?_) <;> simp -implicitDefEqProofs -dsimp only [go_sem, *, ab.cs]) | (with_reducible refine And.intro (by first | omega | (show bp _ = true; kernel_rfl)) ?_; (repeat ((repeat1' (first | simp -implicitDefEqProofs -dsimp only [go_sem, *, az.cs, ab.cs] | simp -dsimp (disch := omega) only [wrap_i64])); repeat (with_reducible refine ah ?_)))) | (refine ⟨0 + 1, ⟨hi', fo hi.2 (by rw [j3 hi']; (try simp only [Bool.not_eq_false', Bool.not_eq_true', decide_eq_false_iff_not, decide_eq_true_eq] at *); simp [qh, *]; try omega)⟩, ?_, by omega⟩; refine br.cut (1) (by simp) (by simp) ?_ ?_; (· (try (repeat1' (first | simp -implicitDefEqProofs -dsimp only [go_sem] | simp -dsimp (disch := omega) only [wrap_i64])); simp [LeC, LeV, ren, bm]; try omega)); (· (first | rfl | simp [cb, db, ren, ae, ab.cs]))))
   | succ j =>
     have hj : j < (w.Posts).length := by omega
     have hw1 : IntKind.i64.wrap (((j + 1 : Nat) : Int) - 1) = (j : Int) := by rw [wrap_i64 (by omega) (by omega)]; omega
     have hg : decide ((0 : Int) < ((j + 1 : Nat) : Int)) = true := decide_eq_true (by omega)
     have hr2 := bt az.csl hj
     (repeat ((repeat1' (first | simp -implicitDefEqProofs -dsimp only [go_sem, hr, hg, hw1, hr2, az.cs, ab.cs] | simp -dsimp (disch := omega) only [wrap_i64])); repeat (with_reducible refine ah ?_)))
     repeat' (first | (refine al.ax (hbad ?_) (by rfl); (rw [ga hi']; (try simp only [Bool.not_eq_false', Bool.not_eq_true', decide_eq_false_iff_not, decide_eq_true_eq] at *); simp [qh, *]; try omega; done)) | ((first | refine ak.at (ff _ _ _) ⟨leA, leA, leA, trivial⟩ ?_ | refine aj.at (ff _ _ _) ⟨leA, leA, leA, trivial⟩ ?_); simp -implicitDefEqProofs -dsimp only [go_sem, *, ab.cs]) | (refine a8.bu (fun _ => ?_) (fun _ => ?_) <;> simp -implicitDefEqProofs -dsimp only [go_sem, *, ab.cs]) | (refine a8.ch (fun _ => ?_) (fun _ => ?_) <;> simp -implicitDefEqProofs -dsimp only [go_sem, *, ab.cs]) | (refine bd.split (fun _ => ?_) (fun _ => ?_) <;> simp -implicitDefEqProofs -dsimp only [go_sem, *, ab.cs]) | (with_reducible refine And.intro (by first | omega | (show bp _ = true; kernel_rfl)) ?_; (repeat ((repeat1' (first | simp -implicitDefEqProofs -dsimp only [go_sem, *, az.cs, ab.cs] | simp -dsimp (disch := omega) only [wrap_i64])); repeat (with_reducible refine ah ?_)))) | (refine ⟨j + 1 + 1, ⟨hi', fo hi.2 (by rw [ga hi']; (try simp only [Bool.not_eq_false', Bool.not_eq_true', decide_eq_false_iff_not, decide_eq_true_eq] at *); simp [qh, *]; try omega)⟩, ?_, by omega⟩; refine br.cut (1) (by simp) (by simp) ?_ ?_; (· (try (repeat1' (first | simp -implicitDefEqProofs -dsimp only [go_sem] | simp -dsimp (disch := omega) only [wrap_i64])); simp [LeC, LeV, ren, bm]; try omega)); (· (first | rfl | simp [cb, db, ren, ae, ab.cs]))))
end Go.Proofs
end
section
namespace Go.Lv
def jd {α : Type} (p : α → Bool) (L : List α) : Int := match L.findIdx? p with
 | some i => i
 | none => -1
theorem tq {α : Type} {p : α → Bool} {L : List α} {i : Nat} (h : i < L.length) (h0 : (L.take i).any p = false) (h1 : p L[i] = true) : jd p L = i := by
 have : L.findIdx? p = some i := by
   rw [List.findIdx?_eq_some_iff_getElem]
   refine ⟨h, h1, fun j hj => ?_⟩
   have := List.any_eq_false.1 h0 L[j] (by rw [List.mem_take_iff_getElem]; exact ⟨j, by omega, rfl⟩)
   simpa using this
 simp [jd, this]
theorem wg {α : Type} {p : α → Bool} {L : List α} (h : L.any p = false) : jd p L = -1 := by
 have : L.findIdx? p = none := by
   rw [List.findIdx?_eq_none_iff]
   intro x hx
   have := List.any_eq_false.1 h x hx
   simpa using this
 simp [jd, this]
end Go.Lv
end
section
set_option maxRecDepth 100000
namespace Go.Proofs
open Go.Lv
theorem sk (L : List az) (p : az → Bool) (fv : Nat) (vc : List V) (hvc : ∀ d, vc.all (cc d) = true) (hv : ∀ x, Ctr Tryz.prog fv (az.v x :: vc) [] (.bool (p x)) []) (hl : L.length ≤ 281474976710656) :
   Ctr Tryz.prog 282 [az.sl L, .fn (.func fv) [] vc] [] (.int .i64 (jd p L)) [] := by
 refine Ctr.intro Tryz.mixed Tryz.func282 rfl Tryz.axe ?_
 simp -implicitDefEqProofs -dsimp only [go_sem, Tryz.ntmps282, Tryz.results282]
 have hvc2 : ∀ f d, vc.map (ren f d) = vc := fun f d => oo f (hvc d)
 refine cw.intro (fun i : Nat => i ≤ L.length ∧ (L.take i).any p = false) (fun i => ⟨[az.sl L, .fn (.func fv) [] vc, .undef, .undef, .undef, .undef, .undef, .int .i64 L.length, .int .i64 i, .undef, .undef, .undef, .undef, .undef, .undef, .undef, .undef, .undef, .undef], [], 0⟩) (fun i => L.length - i) 0 ⟨Nat.zero_le _, rfl⟩ ?_ (fun i hi => ?_)
 · refine br.cut (0) (by simp) (by simp) ?_ ?_
   · simp [LeC, LeV, ren, bm, hvc2]
   · rfl
 simp -implicitDefEqProofs -dsimp only [go_sem]
 refine bd.split (fun h1 => ?_) (fun h1 => ?_)
 · simp -implicitDefEqProofs -dsimp only [go_sem, h1]
   have hi' : i < L.length := by simpa using h1
   have h5 := az.csl L[i]
   have hr := bt az.csl hi'
   (repeat1' (first | simp -implicitDefEqProofs -dsimp only [go_sem, hr, az.cs] | simp -dsimp (disch := omega) only [wrap_i64]))
   repeat (with_reducible refine ah ?_)
   refine aj.intro (hv L[i]) ⟨.inl rfl, kj (hvc2 _ _)⟩ (.inl (by simp only [List.nil_append, List.cons_append, List.all_cons, hvc, Bool.and_true]; rfl)) ?_
   simp -implicitDefEqProofs -dsimp only [go_sem]
   refine bd.split (fun h2 => ?_) (fun h2 => ?_) <;> simp -implicitDefEqProofs -dsimp only [go_sem, h2]
   · exact al.ax (by rw [tq hi' hi.2 h2]) (by rfl)
   · refine ⟨i + 1, ⟨hi', by rw [List.take_succ_eq_append_getElem hi']; simp only [List.any_append, hi.2, List.any_cons, h2, List.any_nil, Bool.or_self]⟩, ?_, by omega⟩
     refine br.cut (0) (by simp) (by simp) ?_ ?_
     · rw [wrap_i64 (by omega) (by omega)]
       simp [LeC, LeV, ren, bm, hvc2]
     · rfl
 · simp -implicitDefEqProofs -dsimp only [go_sem, h1]
   have hi' : i = L.length := by simp at h1; omega
   subst hi'
   have h2 := hi.2
   rw [List.take_length] at h2
   exact al.ax (by rw [wg h2]) (by rfl)
end Go.Proofs
end
section
set_option maxRecDepth 100000
namespace Go.Proofs
open Go.Lv
theorem qg (L : List an) (p : an → Bool) (fv : Nat) (vc : List V) (hvc : ∀ d, vc.all (cc d) = true) (hv : ∀ x, Ctr Tryz.prog fv (an.v x :: vc) [] (.bool (p x)) []) (hl : L.length ≤ 281474976710656) :
   Ctr Tryz.prog 245 [an.sl L, .fn (.func fv) [] vc] [] (.int .i64 (jd p L)) [] := by
 refine Ctr.intro Tryz.mixed Tryz.func245 rfl Tryz.azp ?_
 simp -implicitDefEqProofs -dsimp only [go_sem, Tryz.ntmps245, Tryz.results245]
 have hvc2 : ∀ f d, vc.map (ren f d) = vc := fun f d => oo f (hvc d)
 refine cw.intro (fun i : Nat => i ≤ L.length ∧ (L.take i).any p = false) (fun i => ⟨[an.sl L, .fn (.func fv) [] vc, .undef, .undef, .undef, .undef, .undef, .int .i64 L.length, .int .i64 i, .undef, .undef, .undef, .undef, .undef, .undef, .undef, .undef, .undef, .undef], [], 0⟩) (fun i => L.length - i) 0 ⟨Nat.zero_le _, rfl⟩ ?_ (fun i hi => ?_)
 · refine br.cut (0) (by simp) (by simp) ?_ ?_
   · simp [LeC, LeV, ren, bm, hvc2]
   · rfl
 simp -implicitDefEqProofs -dsimp only [go_sem]
 refine bd.split (fun h1 => ?_) (fun h1 => ?_)
 · simp -implicitDefEqProofs -dsimp only [go_sem, h1]
   have hi' : i < L.length := by simpa using h1
   have h5 := an.csl L[i]
   have hr := bt an.csl hi'
   (repeat1' (first | simp -implicitDefEqProofs -dsimp only [go_sem, hr, an.cs] | simp -dsimp (disch := omega) only [wrap_i64]))
   repeat (with_reducible refine ah ?_)
   refine aj.intro (hv L[i]) ⟨.inl rfl, kj (hvc2 _ _)⟩ (.inl (by simp only [List.nil_append, List.cons_append, List.all_cons, hvc, Bool.and_true]; rfl)) ?_
   simp -implicitDefEqProofs -dsimp only [go_sem]
   refine bd.split (fun h2 => ?_) (fun h2 => ?_) <;> simp -implicitDefEqProofs -dsimp only [go_sem, h2]
   · exact al.ax (by rw [tq hi' hi.2 h2]) (by rfl)
   · refine ⟨i + 1, ⟨hi', by rw [List.take_succ_eq_append_getElem hi']; simp only [List.any_append, hi.2, List.any_cons, h2, List.any_nil, Bool.or_self]⟩, ?_, by omega⟩
     refine br.cut (0) (by simp) (by simp) ?_ ?_
     · rw [wrap_i64 (by omega) (by omega)]
       simp [LeC, LeV, ren, bm, hvc2]
     · rfl
 · simp -implicitDefEqProofs -dsimp only [go_sem, h1]
   have hi' : i = L.length := by simp at h1; omega
   subst hi'
   have h2 := hi.2
   rw [List.take_length] at h2
   exact al.ax (by rw [wg h2]) (by rfl)
end Go.Proofs
end
section
set_option maxRecDepth 100000
namespace Go.Proofs
open Go.Lv
def di (n : Int) (x : an) : Bool := x.Number == n
def j7 (n : Int) (x : az) : Bool := x.Station == n
theorem ad3 (x : an) (n : Int) : Ctr Tryz.prog 246 [x.v, .pt [.int .i64 n]] [] (.bool (di n x)) [] := by
 refine Ctr.intro Tryz.mixed Tryz.func246 rfl Tryz.awp ?_
 simp -implicitDefEqProofs -dsimp only [go_sem, Tryz.ntmps246, Tryz.results246]
 simp -implicitDefEqProofs -dsimp only [go_sem, an.v]
 exact al.ax rfl (by rfl)
theorem jt (w : ab) (n : Int) (hs : w.Shocks.length ≤ 281474976710656) : Ctr Tryz.prog 203 [w.v, .int .i64 n] [] (.int .i64 (jd (di n) w.Shocks)) [] := by
 refine Ctr.intro Tryz.mixed Tryz.func203 rfl Tryz.ays ?_
 simp -implicitDefEqProofs -dsimp only [go_sem, Tryz.ntmps203, Tryz.results203]
 simp -implicitDefEqProofs -dsimp only [go_sem, ab.v]
 (first | refine ak.at (qg w.Shocks (di n) _ [.pt [.int .i64 n]] (fun d => by cases d <;> rfl) (fun x => ad3 x n) hs) ⟨leA, leA, trivial⟩ ?_ | refine aj.at (qg w.Shocks (di n) _ [.pt [.int .i64 n]] (fun d => by cases d <;> rfl) (fun x => ad3 x n) hs) ⟨leA, leA, trivial⟩ ?_)
 simp -implicitDefEqProofs -dsimp only [go_sem]
 exact al.ax rfl (by rfl)
theorem jx (w : ab) (n : Int) (hs : w.Shocks.length ≤ 281474976710656) : Ctr Tryz.prog 265 [w.v, .int .i64 n] [] (.int .i64 (jd (di n) w.Shocks)) [] := by
 refine Ctr.intro Tryz.mixed Tryz.func265 rfl Tryz.azj ?_
 simp -implicitDefEqProofs -dsimp only [go_sem, Tryz.ntmps265, Tryz.results265]
 simp -implicitDefEqProofs -dsimp only [go_sem, ab.v]
 refine cw.intro (fun i : Nat => i ≤ w.Shocks.length ∧ (w.Shocks.take i).any (di n) = false) (fun i => ⟨[.undef, .int .i64 n, .ptr 0 0, .undef, .undef, .int .i64 i, .undef, .undef, .undef, .undef, .undef, .undef, .undef, .undef, .undef, .undef, .undef, .undef, .undef, .undef, .undef, .undef], [some w.cs], 0⟩) (fun i => w.Shocks.length - i) 0 ⟨Nat.zero_le _, rfl⟩ ?_ (fun i hi => ?_)
 · refine br.cut (1) (by simp) (by simp) ?_ ?_
   · simp [LeC, LeV, ren, bm]
   · simp [cb, db, ren, ae, ab.cs]
 simp -implicitDefEqProofs -dsimp only [go_sem, ab.cs]
 refine bd.split (fun h1 => ?_) (fun h1 => ?_)
 · simp -implicitDefEqProofs -dsimp only [go_sem, h1, ab.cs]
   have hi' : i < w.Shocks.length := by simpa using h1
   have h5 := an.csl w.Shocks[i]
   have hr := bt an.csl hi'
   (repeat ((repeat1' (first | simp -implicitDefEqProofs -dsimp only [go_sem, hr, an.cs, ab.cs] | simp -dsimp (disch := omega) only [wrap_i64])); repeat (with_reducible refine ah ?_)))
   refine bd.split (fun h2 => ?_) (fun h2 => ?_) <;> (repeat ((repeat1' (first | simp -implicitDefEqProofs -dsimp only [go_sem, h2] | simp -dsimp (disch := omega) only [wrap_i64])); repeat (with_reducible refine ah ?_)))
   · exact al.ax (by rw [tq hi' hi.2 h2]) (by rfl)
   · refine ⟨i + 1, ⟨hi', by rw [List.take_succ_eq_append_getElem hi']; simp only [List.any_append, hi.2, List.any_cons, di, h2, List.any_nil, Bool.or_self]⟩, ?_, by omega⟩
     refine br.cut (1) (by simp) (by simp) ?_ ?_
     · simp [LeC, LeV, ren, bm]
     · simp [cb, db, ren, ae, ab.cs]
 · simp -implicitDefEqProofs -dsimp only [go_sem, h1]
   have hi' : i = w.Shocks.length := by simp at h1; omega
   subst hi'
   have h2 := hi.2
   rw [List.take_length] at h2
   exact al.ax (by rw [wg h2]) (by rfl)
theorem agc (x : az) (n : Int) : Ctr Tryz.prog 283 [x.v, .pt [.int .i64 n]] [] (.bool (j7 n x)) [] := by
 refine Ctr.intro Tryz.mixed Tryz.func283 rfl Tryz.axq ?_
 simp -implicitDefEqProofs -dsimp only [go_sem, Tryz.ntmps283, Tryz.results283]
 simp -implicitDefEqProofs -dsimp only [go_sem, az.v]
 exact al.ax rfl (by rfl)
theorem o6 (w : ab) (n : Int) (hs : w.Posts.length ≤ 281474976710656) : Ctr Tryz.prog 271 [w.v, .int .i64 n] [] (.int .i64 (jd (j7 n) w.Posts)) [] := by
 refine Ctr.intro Tryz.mixed Tryz.func271 rfl Tryz.azb ?_
 simp -implicitDefEqProofs -dsimp only [go_sem, Tryz.ntmps271, Tryz.results271]
 simp -implicitDefEqProofs -dsimp only [go_sem, ab.v]
 (first | refine ak.at (sk w.Posts (j7 n) _ [.pt [.int .i64 n]] (fun d => by cases d <;> rfl) (fun x => agc x n) hs) ⟨leA, leA, trivial⟩ ?_ | refine aj.at (sk w.Posts (j7 n) _ [.pt [.int .i64 n]] (fun d => by cases d <;> rfl) (fun x => agc x n) hs) ⟨leA, leA, trivial⟩ ?_)
 simp -implicitDefEqProofs -dsimp only [go_sem]
 exact al.ax rfl (by rfl)
theorem mu (w : ab) (n : Int) (hs : w.Posts.length ≤ 281474976710656) : Ctr Tryz.prog 264 [w.v, .int .i64 n] [] (.int .i64 (jd (j7 n) w.Posts)) [] := by
 refine Ctr.intro Tryz.mixed Tryz.func264 rfl Tryz.axd ?_
 simp -implicitDefEqProofs -dsimp only [go_sem, Tryz.ntmps264, Tryz.results264]
 simp -implicitDefEqProofs -dsimp only [go_sem, ab.v]
 refine cw.intro (fun i : Nat => i ≤ w.Posts.length ∧ (w.Posts.take i).any (j7 n) = false) (fun i => ⟨[.undef, .int .i64 n, .ptr 0 0, .undef, .undef, .int .i64 i, .undef, .undef, .undef, .undef, .undef, .undef, .undef, .undef, .undef, .undef, .undef, .undef, .undef, .undef, .undef, .undef], [some w.cs], 0⟩) (fun i => w.Posts.length - i) 0 ⟨Nat.zero_le _, rfl⟩ ?_ (fun i hi => ?_)
 · refine br.cut (1) (by simp) (by simp) ?_ ?_
   · simp [LeC, LeV, ren, bm]
   · simp [cb, db, ren, ae, ab.cs]
 simp -implicitDefEqProofs -dsimp only [go_sem, ab.cs]
 refine bd.split (fun h1 => ?_) (fun h1 => ?_)
 · simp -implicitDefEqProofs -dsimp only [go_sem, h1, ab.cs]
   have hi' : i < w.Posts.length := by simpa using h1
   have h5 := az.csl w.Posts[i]
   have hr := bt az.csl hi'
   (repeat ((repeat1' (first | simp -implicitDefEqProofs -dsimp only [go_sem, hr, az.cs, ab.cs] | simp -dsimp (disch := omega) only [wrap_i64])); repeat (with_reducible refine ah ?_)))
   refine bd.split (fun h2 => ?_) (fun h2 => ?_) <;> (repeat ((repeat1' (first | simp -implicitDefEqProofs -dsimp only [go_sem, h2] | simp -dsimp (disch := omega) only [wrap_i64])); repeat (with_reducible refine ah ?_)))
   · exact al.ax (by rw [tq hi' hi.2 h2]) (by rfl)
   · refine ⟨i + 1, ⟨hi', by rw [List.take_succ_eq_append_getElem hi']; simp only [List.any_append, hi.2, List.any_cons, j7, h2, List.any_nil, Bool.or_self]⟩, ?_, by omega⟩
     refine br.cut (1) (by simp) (by simp) ?_ ?_
     · simp [LeC, LeV, ren, bm]
     · simp [cb, db, ren, ae, ab.cs]
 · simp -implicitDefEqProofs -dsimp only [go_sem, h1]
   have hi' : i = w.Posts.length := by simp at h1; omega
   subst hi'
   have h2 := hi.2
   rw [List.take_length] at h2
   exact al.ax (by rw [wg h2]) (by rfl)
end Go.Proofs
end
section
set_option maxRecDepth 100000
set_option maxHeartbeats 1000000
namespace Go.Proofs
open Go.Lv
def zz (s : Int) : ByteArray := if s = 0 then ⟨#[110, 101, 119]⟩ else if s = 1 then ⟨#[108, 111, 99, 97, 116, 101, 100]⟩ else if s = 2 then ⟨#[114, 101, 118, 105, 101, 119, 101, 100]⟩ else ⟨#[112, 117, 98, 108, 105, 115, 104, 101, 100]⟩
def v8 (x : an) : ByteArray := (zz x.State ++ ⟨#[32, 115, 101, 101, 110, 32]⟩) ++ num x.Seen
def o5 (x : an) : ByteArray := if x.State = 0 then v8 x else v8 x ++ (⟨#[32, 115, 105, 122, 101, 32]⟩ ++ num x.Size)
theorem aga {n x : Int} {s : an} (h : kf n x s = true) : (num s.Seen).size ≤ 21 ∧ (num s.Size).size ≤ 21 := by
 have := gq.1 h
 exact ⟨j6 (by omega) (by omega), j6 (by omega) (by omega)⟩
def im (w : ab) (n : Int) : V := if wB w = true then match w.Shocks.find? (di n) with
 | some x => .tup [.str (o5 x), .bool true]
 | none => .tup [.str ByteArray.empty, .bool false] else .tup [.str ByteArray.empty, .bool false]
theorem yf (n t : Int) (x : an) (h : kf n t x = true) : Ctr Tryz.prog 104 [x.v] [] (.str (o5 x)) [] := by
 have hv := gq.1 h
 have hs := aga h
 obtain ⟨N, S, E, Z, T⟩ := x
 simp only at hv hs
 have hst : S = 0 ∨ S = 1 ∨ S = 2 ∨ S = 3 := by omega
 rcases hst with rfl | rfl | rfl | rfl
 all_goals
   refine Ctr.intro Tryz.mixed Tryz.func104 rfl Tryz.av4 ?_
   simp -implicitDefEqProofs -dsimp only [go_sem, Tryz.ntmps104, Tryz.results104]
   simp -implicitDefEqProofs -dsimp only [go_sem, an.v]
   repeat (first | ((have ct := qk E ⟨by omega, by omega⟩; (first | refine ak.at ct ⟨leA, trivial⟩ ?_ | refine aj.at ct ⟨leA, trivial⟩ ?_); clear ct); simp -implicitDefEqProofs -dsimp only [go_sem]) | ((have ct := qk Z ⟨by omega, by omega⟩; (first | refine ak.at ct ⟨leA, trivial⟩ ?_ | refine aj.at ct ⟨leA, trivial⟩ ?_); clear ct); simp -implicitDefEqProofs -dsimp only [go_sem]) | (with_reducible refine And.intro (by first | omega | (show bp _ = true; kernel_rfl) | (simp only [ByteArray.size_append, bo, List.size_toArray, List.length_cons, List.length_nil]; omega)) ?_; try (repeat1' (first | simp -implicitDefEqProofs -dsimp only [go_sem] | simp -dsimp (disch := omega) only [wrap_i64]))))
   exact al.ax (by simp [o5, v8, zz]) (by rfl)
theorem ab9 (n t : Int) (x : an) (h : kf n t x = true) : Ctr Tryz.prog 105 [x.v] [] (.str (o5 x)) [] := by
 have hv := gq.1 h
 have hs := aga h
 obtain ⟨N, S, E, Z, T⟩ := x
 simp only at hv hs
 have hst : S = 0 ∨ S = 1 ∨ S = 2 ∨ S = 3 := by omega
 rcases hst with rfl | rfl | rfl | rfl
 all_goals
   refine Ctr.intro Tryz.mixed Tryz.func105 rfl Tryz.av7 ?_
   simp -implicitDefEqProofs -dsimp only [go_sem, Tryz.ntmps105, Tryz.results105]
   simp -implicitDefEqProofs -dsimp only [go_sem, an.v]
   repeat (first | ((have ct := fi E (by omega) (by omega); (first | refine ak.at ct ⟨leA, trivial⟩ ?_ | refine aj.at ct ⟨leA, trivial⟩ ?_); clear ct); simp -implicitDefEqProofs -dsimp only [go_sem]) | ((have ct := fi Z (by omega) (by omega); (first | refine ak.at ct ⟨leA, trivial⟩ ?_ | refine aj.at ct ⟨leA, trivial⟩ ?_); clear ct); simp -implicitDefEqProofs -dsimp only [go_sem]) | (with_reducible refine And.intro (by first | omega | (show bp _ = true; kernel_rfl) | (simp only [ByteArray.size_append, bo, List.size_toArray, List.length_cons, List.length_nil]; omega)) ?_; try (repeat1' (first | simp -implicitDefEqProofs -dsimp only [go_sem] | simp -dsimp (disch := omega) only [wrap_i64]))))
   exact al.ax (by simp [o5, v8, zz, ByteArray.append_assoc]) (by rfl)
theorem agb {α : Type} (p : α → Bool) (L : List α) : (∃ i, ∃ h : i < L.length, jd p L = (i : Int) ∧ L.find? p = some L[i]) ∨ (jd p L = -1 ∧ L.find? p = none) := by
 unfold jd
 cases h : L.findIdx? p with
 | none =>
   right
   refine ⟨rfl, ?_⟩
   rw [List.findIdx?_eq_none_iff] at h
   rw [List.find?_eq_none]
   intro x hx
   simpa using h x hx
 | some i =>
   left
   rw [List.findIdx?_eq_some_iff_getElem] at h
   obtain ⟨hi, h1, h2⟩ := h
   refine ⟨i, hi, rfl, ?_⟩
   rw [List.find?_eq_some_iff_getElem]
   exact ⟨h1, i, hi, rfl, fun j hj => by simpa using h2 j hj⟩
theorem w2 (w : ab) (n : Int) (hp : w.Posts.length ≤ 281474976710656) (hs : w.Shocks.length ≤ 281474976710656) : Ctr Tryz.prog 149 [w.v, .int .i64 n] [] (im w n) [] := by
 refine Ctr.intro Tryz.mixed Tryz.func149 rfl Tryz.awa ?_
 simp -implicitDefEqProofs -dsimp only [go_sem, Tryz.ntmps149, Tryz.results149]
 simp -implicitDefEqProofs -dsimp only [go_sem, ab.v]
 (have ct := jt w n hs; (first | refine ak.at ct ⟨leA, leA, trivial⟩ ?_ | refine aj.at ct ⟨leA, leA, trivial⟩ ?_); clear ct)
 simp -implicitDefEqProofs -dsimp only [go_sem]
 (have ct := de w hp hs; (first | refine ak.at ct ⟨leA, trivial⟩ ?_ | refine aj.at ct ⟨leA, trivial⟩ ?_); clear ct)
 cases h : wB w with
 | false =>
   simp -implicitDefEqProofs -dsimp only [go_sem, h]
   exact al.ax (by simp [im, h]; rfl) (by rfl)
 | true =>
   have hw := dt h
   rcases agb (di n) w.Shocks with ⟨i, hi, e1, e2⟩ | ⟨e1, e2⟩
   · rw [e1]
     have hsh := hw.shocks _ (List.getElem_mem hi)
     have hr := bt an.csl hi
     have hd : decide ((i : Int) < 0) = false := decide_eq_false (by omega)
     (repeat ((repeat1' (first | simp -implicitDefEqProofs -dsimp only [go_sem, h, hd, hr, an.cs, ab.cs] | simp -dsimp (disch := omega) only [wrap_i64])); repeat (with_reducible refine And.intro ?_ ?_; focus (first | omega | with_reducible rfl | (show bp _ = true; kernel_rfl) | (simp only [ay, bb, List.length_append, List.length_cons, List.length_nil, List.all_append, List.all_cons, List.all_nil, bq, Nat.mul_one, Nat.one_mul, Bool.and_self]; first | done | omega) | (simp only [ByteArray.size_append, bo, List.size_toArray, List.length_cons, List.length_nil]; omega)))))
     (first | refine ak.at (yf _ _ w.Shocks[i] hsh) ⟨leA, trivial⟩ ?_ | refine aj.at (yf _ _ w.Shocks[i] hsh) ⟨leA, trivial⟩ ?_)
     simp -implicitDefEqProofs -dsimp only [go_sem]
     exact al.ax (by simp [im, h, e2]) (by rfl)
   · rw [e1]
     simp -implicitDefEqProofs -dsimp only [go_sem, h]
     exact al.ax (by simp [im, h, e2]; rfl) (by rfl)
theorem aep (w : ab) (n : Int) (hp : w.Posts.length ≤ 281474976710656) (hs : w.Shocks.length ≤ 281474976710656) : Ctr Tryz.prog 254 [w.v, .int .i64 n] [] (im w n) [] := by
 refine Ctr.intro Tryz.mixed Tryz.func254 rfl Tryz.ayt ?_
 simp -implicitDefEqProofs -dsimp only [go_sem, Tryz.ntmps254, Tryz.results254]
 simp -implicitDefEqProofs -dsimp only [go_sem, ab.v]
 (have ct := jx w n hs; (first | refine ak.at ct ⟨leA, leA, trivial⟩ ?_ | refine aj.at ct ⟨leA, leA, trivial⟩ ?_); clear ct)
 simp -implicitDefEqProofs -dsimp only [go_sem]
 (have ct := dv w hp hs; (first | refine ak.at ct ⟨leA, trivial⟩ ?_ | refine aj.at ct ⟨leA, trivial⟩ ?_); clear ct)
 cases h : wB w with
 | false =>
   simp -implicitDefEqProofs -dsimp only [go_sem, h]
   exact al.ax (by simp [im, h]; rfl) (by rfl)
 | true =>
   have hw := dt h
   rcases agb (di n) w.Shocks with ⟨i, hi, e1, e2⟩ | ⟨e1, e2⟩
   · rw [e1]
     have hsh := hw.shocks _ (List.getElem_mem hi)
     have hr := bt an.csl hi
     have hd : decide ((i : Int) < 0) = false := decide_eq_false (by omega)
     (repeat ((repeat1' (first | simp -implicitDefEqProofs -dsimp only [go_sem, h, hd, hr, an.cs, ab.cs] | simp -dsimp (disch := omega) only [wrap_i64])); repeat (with_reducible refine And.intro ?_ ?_; focus (first | omega | with_reducible rfl | (show bp _ = true; kernel_rfl) | (simp only [ay, bb, List.length_append, List.length_cons, List.length_nil, List.all_append, List.all_cons, List.all_nil, bq, Nat.mul_one, Nat.one_mul, Bool.and_self]; first | done | omega) | (simp only [ByteArray.size_append, bo, List.size_toArray, List.length_cons, List.length_nil]; omega)))))
     (first | refine ak.at (ab9 _ _ w.Shocks[i] hsh) ⟨leA, trivial⟩ ?_ | refine aj.at (ab9 _ _ w.Shocks[i] hsh) ⟨leA, trivial⟩ ?_)
     simp -implicitDefEqProofs -dsimp only [go_sem]
     exact al.ax (by simp [im, h, e2]) (by rfl)
   · rw [e1]
     simp -implicitDefEqProofs -dsimp only [go_sem, h]
     exact al.ax (by simp [im, h, e2]; rfl) (by rfl)
end Go.Proofs
end
section
set_option maxRecDepth 100000
namespace Go.Proofs
open Go.Lv
structure c7 where
 Week : Int
 Events : Int
 Felt : Int
 Picks : Int
 Lost : Int
def c7.cs (r : c7) : List V := [.int .i64 r.Week, .int .i64 r.Events, .int .i64 r.Felt, .int .i64 r.Picks, .int .i64 r.Lost]
def c7.v (r : c7) : V := .agg [.int .i64 r.Week, .int .i64 r.Events, .int .i64 r.Felt, .int .i64 r.Picks, .int .i64 r.Lost]
theorem c7.csl (a : c7) : a.cs.length = 5 := rfl
theorem c7.csp (a : c7) : a.cs.all (cc 2) = true := rfl
instance : nf c7.cs 5 := ⟨fun _ => rfl, fun _ d => by cases d <;> rfl, fun _ => rfl, fun _ => rfl⟩
def c7.ok (r : c7) : Prop := iq r.Week ∧ iq r.Events ∧ iq r.Felt ∧ iq r.Picks ∧ iq r.Lost
abbrev c7.rows (L : List c7) : List V := Go.Lv.rows c7.cs L
abbrev c7.sl (L : List c7) : V := .sl L.length 5 (Go.Lv.rows c7.cs L)
abbrev c7.zs : List V := [.int .i64 0, .int .i64 0, .int .i64 0, .int .i64 0, .int .i64 0]
def c7.mk1 (k : Int) : c7 := ⟨k, k + 1, k + 1 + 1, k + 1 + 1 + 1, k + 1 + 1 + 1 + 1⟩
def c7.marks (k : Int) (n : Nat) : List c7 := (List.range n).map fun i : Nat => c7.mk1 (k + 5 * (i : Int))
@[simp] theorem c7.dr (k : Int) (n : Nat) : (c7.marks k n).length = n := by simp [c7.marks]
theorem c7.ik (k : Int) (n : Nat) : c7.marks k (n + 1) = c7.marks k n ++ [c7.mk1 (k + 5 * (n : Int))] := by simp [c7.marks, List.range_succ]
theorem c7.jf (k : Int) (n : Nat) {i : Nat} (hi : i < (c7.marks k n).length) : (c7.marks k n)[i] = c7.mk1 (k + 5 * (i : Int)) := by simp [c7.marks]
end Go.Proofs
end
section
set_option maxRecDepth 100000
set_option maxHeartbeats 1000000
namespace Go.Proofs
open Go.Lv
def ni (c : ai) : Bool := wB c.ab && nc c.Log
def ai.fits (c : ai) : Prop := c.ab.Posts.length ≤ 1048576 ∧ c.ab.Shocks.length ≤ 1048576 ∧ c.Log.Durable.size ≤ 4194304 ∧ c.Log.Pending.size ≤ 4194304
theorem e7 (c : ai) (hc : c.fits) : Ctr Tryz.prog 36 [c.v] [] (.bool (ni c)) [] := by
 obtain ⟨h0, h1, h2, h3⟩ := hc
 refine Ctr.intro Tryz.mixed Tryz.func36 rfl Tryz.a4y ?_
 simp -implicitDefEqProofs -dsimp only [go_sem, Tryz.ntmps36, Tryz.results36]
 simp -implicitDefEqProofs -dsimp only [go_sem, ai.v]
 (have ct := de c.ab (by omega) (by omega); (first | refine ak.at ct ⟨leA, trivial⟩ ?_ | refine aj.at ct ⟨leA, trivial⟩ ?_); clear ct)
 cases h : wB c.ab with
 | false =>
   simp -implicitDefEqProofs -dsimp only [go_sem, h]
   exact al.ax (by simp [ni, h]) (by rfl)
 | true =>
   simp -implicitDefEqProofs -dsimp only [go_sem, h]
   (have ct := um c.Log h2 h3; (first | refine ak.at ct ⟨leA, trivial⟩ ?_ | refine aj.at ct ⟨leA, trivial⟩ ?_); clear ct)
   simp -implicitDefEqProofs -dsimp only [go_sem]
   exact al.ax (by simp [ni, h]) (by rfl)
theorem w3 (c : ai) (hc : c.fits) : Ctr Tryz.prog 98 [c.v] [] (.bool (ni c)) [] := by
 obtain ⟨h0, h1, h2, h3⟩ := hc
 refine Ctr.intro Tryz.mixed Tryz.func98 rfl Tryz.a4u ?_
 simp -implicitDefEqProofs -dsimp only [go_sem, Tryz.ntmps98, Tryz.results98]
 simp -implicitDefEqProofs -dsimp only [go_sem, ai.v]
 (have ct := dv c.ab (by omega) (by omega); (first | refine ak.at ct ⟨leA, trivial⟩ ?_ | refine aj.at ct ⟨leA, trivial⟩ ?_); clear ct)
 cases h : wB c.ab with
 | false =>
   simp -implicitDefEqProofs -dsimp only [go_sem, h]
   exact al.ax (by simp [ni, h]) (by rfl)
 | true =>
   simp -implicitDefEqProofs -dsimp only [go_sem, h]
   (have ct := wj c.Log h2 h3; (first | refine ak.at ct ⟨leA, trivial⟩ ?_ | refine aj.at ct ⟨leA, trivial⟩ ?_); clear ct)
   simp -implicitDefEqProofs -dsimp only [go_sem]
   exact al.ax (by simp [ni, h]) (by rfl)
end Go.Proofs
end
section
set_option maxRecDepth 100000
namespace Go.Proofs
open Go.Lv
structure bz where
 Kind : Int
 Number : Int
 Value : Int
def bz.cs (r : bz) : List V := [.int .i64 r.Kind, .int .i64 r.Number, .int .i64 r.Value]
def bz.v (r : bz) : V := .agg [.int .i64 r.Kind, .int .i64 r.Number, .int .i64 r.Value]
theorem bz.csl (a : bz) : a.cs.length = 3 := rfl
theorem bz.csp (a : bz) : a.cs.all (cc 2) = true := rfl
instance : nf bz.cs 3 := ⟨fun _ => rfl, fun _ d => by cases d <;> rfl, fun _ => rfl, fun _ => rfl⟩
def bz.ok (r : bz) : Prop := iq r.Kind ∧ iq r.Number ∧ iq r.Value
abbrev bz.rows (L : List bz) : List V := Go.Lv.rows bz.cs L
abbrev bz.sl (L : List bz) : V := .sl L.length 3 (Go.Lv.rows bz.cs L)
abbrev bz.zs : List V := [.int .i64 0, .int .i64 0, .int .i64 0]
def bz.mk1 (k : Int) : bz := ⟨k, k + 1, k + 1 + 1⟩
def bz.marks (k : Int) (n : Nat) : List bz := (List.range n).map fun i : Nat => bz.mk1 (k + 3 * (i : Int))
@[simp] theorem bz.dr (k : Int) (n : Nat) : (bz.marks k n).length = n := by simp [bz.marks]
theorem bz.ik (k : Int) (n : Nat) : bz.marks k (n + 1) = bz.marks k n ++ [bz.mk1 (k + 3 * (n : Int))] := by simp [bz.marks, List.range_succ]
theorem bz.jf (k : Int) (n : Nat) {i : Nat} (hi : i < (bz.marks k n).length) : (bz.marks k n)[i] = bz.mk1 (k + 3 * (i : Int)) := by simp [bz.marks]
end Go.Proofs
end
section
namespace Go.Lv
theorem mi {α : Type} {cs : α → List V} {w : Nat} (hw : ∀ a, (cs a).length = w) {L : List α} {i : Nat} (hi : i < L.length) (x : α) : ck (rows cs L) (i * w) (cs x) = rows cs (L.set i x) := by
 have e : L = L.take i ++ L[i] :: L.drop (i + 1) := by rw [← List.drop_eq_getElem_cons hi, List.take_append_drop]
 have e2 : L.set i x = L.take i ++ x :: L.drop (i + 1) := by rw [List.set_eq_take_append_cons_drop, if_pos hi]
 have hA : (rows cs (L.take i)).length = i * w := by rw [je hw, List.length_take, Nat.min_eq_left (by omega)]
 rw [e2, cu, dq]
 conv => lhs; rw [e, cu, dq]
 rw [qc hA, aa8]
 congr 2
 rw [List.drop_append_of_le_length (by rw [hw, hw]; exact Nat.le_refl _), List.drop_of_length_le (by rw [hw, hw]; exact Nat.le_refl _)]
 rfl
end Go.Lv
end
section
namespace Go.Lv
theorem aiy {A B ns : List V} {f : Nat} (h : f + ns.length ≤ A.length) : ck (A ++ B) f ns = ck A f ns ++ B := by
 unfold ck
 rw [List.take_append_of_le_length (by omega), List.drop_append_of_le_length (by omega)]
 simp [List.append_assoc]
theorem qi {α : Type} {cs : α → List V} {w : Nat} (hw : ∀ a, (cs a).length = w) {L : List α} {j f : Nat} {v : V} {x : α} (hj : j < L.length) (hf : f < w) (hx : cs x = ck (cs L[j]) f [v]) : ck (rows cs L) (j * w + f) [v] = rows cs (L.set j x) := by
 have e : L = L.take j ++ L[j] :: L.drop (j + 1) := by rw [← List.drop_eq_getElem_cons hj, List.take_append_drop]
 have e2 : L.set j x = L.take j ++ x :: L.drop (j + 1) := by rw [List.set_eq_take_append_cons_drop, if_pos hj]
 have hA : (rows cs (L.take j)).length = j * w := by rw [je hw, List.length_take, Nat.min_eq_left (by omega)]
 rw [e2, cu, dq]
 conv => lhs; rw [e, cu, dq]
 rw [tc hA, aiy (by rw [hw]; simp; omega), hx]

def fits (id n : Nat) : Nat → V → Bool
 | _, .osl i off m w => i != id || decide (off + m * w ≤ n)
 | d + 1, .agg cs => cs.all (fits id n d)
 | d + 1, .tup cs => cs.all (fits id n d)
 | d + 1, .fn _ a c => a.all (fits id n d) && c.all (fits id n d)
 | 0, .agg _ => false
 | 0, .tup _ => false
 | 0, .fn _ _ _ => false
 | _, _ => true

theorem RV.trim {w : World} {m : Nat → Nat} {h : Hp} {av av' : Nat → Prop} {id n : Nat} {cs : List V} (hid : h[id]? = some (some cs)) (hmb : gr cs = false) (hmb' : gr (cs.take n) = false) (hn : n ≤ cs.length) (hav : ∀ b, av' b → av b) {o : Bool} {v : Value} {x : V}
   (hx : RV w m h av o v x) : ∀ d, fits id n d x = true → RV w m (h.set id (some (cs.take n))) av' o v x := by
 have hro : ∀ {v : Value} {x : V}, RV w m h av false v x → RV w m (h.set id (some (cs.take n))) av' false v x := fun hx =>
   hx.v7 (fun b off v hb hc => ⟨fun h => hb (hav b h), hc⟩) rfl
 have hset : ∀ {i : Nat} {c : List V}, h[i]? = some (some c) → i ≠ id → (h.set id (some (cs.take n)))[i]? = some (some c) := fun h e => by
   rw [List.getElem?_set_ne (Ne.symm e)]; exact h
 have hself : (h.set id (some (cs.take n)))[id]? = some (some (cs.take n)) := List.getElem?_set_self (dy hid)
 induction hx with
 | undef v => exact fun _ _ => .undef v
 | skip => exact fun _ _ => .skip
 | bool b => exact fun _ _ => .bool b
 | int k n => exact fun _ _ => .int k n
 | str s => exact fun _ _ => .str s
 | nilsl => exact fun _ _ => .nilsl
 | slz a c wd => exact fun _ _ => .slz a c wd
 | sl b off n' cap wd cs' vals hl ha hc hv hr _ => exact fun _ _ => .sl b off n' cap wd cs' vals hl (fun hne h => ha hne (hav b h)) hc hv (fun i hi => hro (hr i hi))
 | pt b off cs' vals ha hv hr _ => exact fun _ _ => .pt b off cs' vals (fun hne h => ha hne (hav b h)) hv (fun i hi => hro (hr i hi))
 | osl id' off n' cap wd cs' hid' hl hc hs =>
   intro d hf
   by_cases e : id' = id
   · subst e
     have he : cs = cs' := by have := hid'.1; rw [hid] at this; simpa using this
     subst he
     have hf' : off + n' * wd ≤ n := by cases d <;> simpa [fits] using hf
     exact .osl id' off n' cap wd (cs.take n) ⟨hself, hmb'⟩ (by simp; omega) hc hs
   · exact .osl id' off n' cap wd cs' ⟨hset hid'.1 e, hid'.2⟩ hl hc hs
 | ptr id' off cs' hid' =>
   intro d _
   by_cases e : id' = id
   · subst e
     exact .ptr id' off (cs.take n) ⟨hself, hmb'⟩
   · exact .ptr id' off cs' ⟨hset hid'.1 e, hid'.2⟩
 | fn g a c a' c' ha hc hra hrc iha ihc =>
   intro d hf
   cases d with
   | zero => simp [fits] at hf
   | succ d =>
     simp only [fits, Bool.and_eq_true, List.all_eq_true] at hf
     exact .fn g a c a' c' ha hc (fun i hi => iha i hi d (hf.1 _ (List.getElem_mem hi))) (fun i hi => ihc i hi d (hf.2 _ (List.getElem_mem hi)))
 | agg a a' ha hra iha =>
   intro d hf
   cases d with
   | zero => simp [fits] at hf
   | succ d =>
     simp only [fits, List.all_eq_true] at hf
     exact .agg a a' ha (fun i hi => iha i hi d (hf _ (List.getElem_mem hi)))
 | tup a a' ha hra iha =>
   intro d hf
   cases d with
   | zero => simp [fits] at hf
   | succ d =>
     simp only [fits, List.all_eq_true] at hf
     exact .tup a a' ha (fun i hi => iha i hi d (hf _ (List.getElem_mem hi)))
 | lit v => exact fun _ _ => .lit v
 | mp id' cs' hid' hm =>
   intro d _
   by_cases e : id' = id
   · subst e
     rw [hid] at hid'
     have he : cs = cs' := by simpa using hid'
     subst he
     rw [hmb] at hm; cases hm
   · exact .mp id' cs' (hset hid' e) hm

theorem al.trim {k : Nat} {v r : V} {h hout : Hp} (id n : Nat) {cs : List V} (hid : h[id]? = some (some cs)) (hk : k ≤ id) (hn : n ≤ cs.length) (hmb : gr cs = false) (hmb' : gr (cs.take n) = false) (hv : fits id n 3 v = true)
   (hh : (h.all fun b => match b with | some cs => cs.all (fits id n 2) | none => true) = true) (hr : al k v (h.set id (some (cs.take n))) r hout) : al k v h r hout := by
 intro w0 m0 h0 av0 w m val e1 e2 hlt hle H hx hI
 have hfit : ∀ (j : Nat) (c : List V), h[j]? = some (some c) → ∀ x ∈ c, fits id n 2 x = true := by
   intro j c hj x hxc
   have := List.all_eq_true.1 hh _ (List.mem_of_getElem? hj)
   exact List.all_eq_true.1 this x hxc
 have hown : ∀ b, own m (h.set id (some (cs.take n))) b → own m h b := by
   rintro b ⟨j, c, h1, rfl⟩
   rcases mj hid h1 with ⟨rfl, _⟩ | ⟨_, h2⟩
   · exact ⟨j, cs, hid, rfl⟩
   · exact ⟨j, c, h2, rfl⟩
 have hav : ∀ b, avm av0 m (h.set id (some (cs.take n))) b → avm av0 m h b := fun b hb => hb.imp (fun x => x) (hown b)
 have hcase : ∀ (j : Nat) (c : List V), (h.set id (some (cs.take n)))[j]? = some (some c) → ∃ c0, h[j]? = some (some c0) ∧ (∃ q, c = c0.take q) := by
   intro j c h1
   rcases mj hid h1 with ⟨rfl, rfl⟩ | ⟨_, h2⟩
   · exact ⟨cs, hid, n, rfl⟩
   · exact ⟨c, h2, c.length, by simp⟩
 refine hr w0 m0 h0 av0 w m val e1 (by simpa using e2) hlt hle ⟨fun i j ci cj h1 h2 he => ?_, fun j c h1 => .inr ⟨j, c, h1, rfl⟩, fun j c h1 => ?_⟩ (hx.trim hid hmb hmb' hn hav 3 hv) (fun j c h1 => ?_)
 · obtain ⟨c1, g1, _⟩ := hcase i ci h1
   obtain ⟨c2, g2, _⟩ := hcase j cj h2
   exact H.inj i j c1 c2 g1 g2 he
 · rcases mj hid h1 with ⟨rfl, rfl⟩ | ⟨_, h2⟩
   · obtain ⟨C, T, fr, g1, hfr, g2, g3⟩ := (H.blk j cs hid).cells hmb
     refine .inl ⟨C, T, fr, g1, hfr, by simp; omega, fun i hi => ?_⟩
     have hi' : i < cs.length := by simp at hi; omega
     rw [List.getElem_take]
     exact (g3 i hi').trim hid hmb hmb' hn hav 2 (hfit j cs hid _ (List.getElem_mem _))
   · rcases H.blk j c h2 with ⟨C, T, fr, g1, hfr, g2, g3⟩ | h3
     · exact .inl ⟨C, T, fr, g1, hfr, g2, fun i hi => (g3 i hi).trim hid hmb hmb' hn hav 2 (hfit j c h2 _ (List.getElem_mem _))⟩
     · exact .inr h3
 · rcases mj hid h1 with ⟨rfl, rfl⟩ | ⟨_, h2⟩
   · rcases hI j cs hid with ⟨q1, _⟩ | q1
     · omega
     · exact .inr q1
   · exact hI j c h2

theorem adl (id n : Nat) : ∀ (d : Nat) (x : V), cc d x = true → fits id n d x = true
 | 0, x, hx => by cases x <;> simp_all [cc, fits]
 | d + 1, x, hx => by
   have hall : ∀ l : List V, l.all (cc d) = true → l.all (fits id n d) = true := fun l h =>
     List.all_eq_true.2 fun y hy => adl id n d y (List.all_eq_true.1 h y hy)
   cases x <;> first | (simp only [cc, fits, Bool.and_eq_true] at hx ⊢; exact ⟨hall _ hx.1, hall _ hx.2⟩) | (simp only [cc, fits] at hx ⊢; exact hall _ hx) | rfl | cases hx
theorem afp {α : Type} {cs : α → List V} {w : Nat} [lp cs w] (id n d : Nat) (L : List α) : (rows cs L).all (fits id n d) = true :=
 List.all_eq_true.2 fun x hx => adl id n d x (List.all_eq_true.1 (kr (cs := cs) L d) x hx)
end Go.Lv
end
section
set_option maxRecDepth 100000
set_option maxHeartbeats 1000000
namespace Go.Proofs
open Go.Lv
theorem alj {α : Type} (p : α → Bool) (L : List α) : (∃ i, ∃ h : i < L.length, jd p L = (i : Int) ∧ p L[i] = true) ∨ jd p L = -1 := by
 unfold jd
 cases h : L.findIdx? p with
 | none => exact .inr rfl
 | some i =>
   obtain ⟨h1, h2, _⟩ := List.findIdx?_eq_some_iff_getElem.1 h
   exact .inl ⟨i, h1, rfl, h2⟩
theorem sj {α : Type} {p : α → Bool} {L : List α} (h : decide (0 ≤ jd p L) = true) : ∃ i, ∃ h : i < L.length, jd p L = (i : Int) ∧ p L[i] = true := by
 rcases alj p L with h1 | h1
 · exact h1
 · rw [h1] at h; simp at h
def pAt (w : ab) (n : Int) : Nat := (jd (j7 n) w.Posts).toNat
def sAt (w : ab) (n : Int) : Nat := (jd (di n) w.Shocks).toNat
def df (w : ab) (k n v : Int) : Bool :=
 if k = 1 then n == 0 && decide (1 ≤ v)
 else if k = 2 ∨ k = 3 then decide (0 ≤ jd (j7 n) w.Posts) && v == 0
 else if k = 4 then n == 0 && v == 0
 else if k = 5 then decide (0 ≤ jd (di n) w.Shocks) && eb v (-20) 95
 else if k = 6 then decide (0 ≤ jd (di n) w.Shocks) && eb v (-10) 10
 else (k == 7 || k == 8) && decide (0 ≤ jd (di n) w.Shocks) && v == 0
def vj (x : an) (k v : Int) : an := if k = 5 then ⟨x.Number, 1, x.Seen, v, x.Tick⟩ else if k = 6 then ⟨x.Number, 2, x.Seen, x.Size + v, x.Tick⟩ else ⟨x.Number, 3, x.Seen, x.Size, x.Tick⟩
def aai (x : an) (k : Int) : Bool := if k = 5 then x.State == 0 && decide (3 ≤ x.Seen) else if k = 6 then x.State == 1 else x.State == 2 || (x.State == 1 && decide (50 ≤ x.Size))
def ab8 (w : ab) (x : an) : Bool := x.State == 3 || (x.State == 0 && decide (6000 < w.Now - x.Tick))
def upN (w : ab) (i : Nat) : Nat := ((w.Posts.take i).filter az.Up).length
def aks (w : ab) (i : Nat) : an := (w.Shocks[i]?).getD ⟨0, 0, 0, 0, 0⟩
def axg (w : ab) (i : Nat) : az := (w.Posts[i]?).getD ⟨0, false, 0⟩
theorem yq {w : ab} {i : Nat} (h : i < w.Shocks.length) : aks w i = w.Shocks[i] := by simp [aks, h]
theorem ajq {w : ab} {i : Nat} (h : i < w.Posts.length) : axg w i = w.Posts[i] := by simp [axg, h]
def ep (w : ab) (k n v : Int) : ab :=
 if k = 1 then ⟨w.Now + v, w.Posts, w.Shocks, w.Next, w.Archived⟩
 else if k = 2 ∨ k = 3 then ⟨w.Now, w.Posts.set (pAt w n) ⟨n, decide (k = 3), w.Now⟩, w.Shocks, w.Next, w.Archived⟩
 else if k = 4 then ⟨w.Now, w.Posts, w.Shocks ++ [⟨w.Next, 0, (upN w w.Posts.length : Int), 0, w.Now⟩], w.Next + 1, w.Archived⟩
 else if k = 8 then ⟨w.Now, w.Posts, w.Shocks.take (sAt w n) ++ w.Shocks.drop (sAt w n + 1), w.Next, w.Archived + 1⟩
 else ⟨w.Now, w.Posts, w.Shocks.set (sAt w n) (vj (aks w (sAt w n)) k v), w.Next, w.Archived⟩
def n4 (w : ab) (k n v : Int) : Bool :=
 if k = 1 then decide (v ≤ 1000000 - w.Now)
 else if k = 2 ∨ k = 3 then (axg w (pAt w n)).Up != decide (k = 3)
 else if k = 4 then true
 else if k = 8 then ab8 w (aks w (sAt w n))
 else aai (aks w (sAt w n)) k
def ey (w : ab) (k n v : Int) : ab := if k = 1 ∧ ¬ v ≤ 1000000 - w.Now then w else ep w k n v
theorem aku (w : ab) (k n v : Int) (hp : w.Posts.length ≤ 16777216) (hs : w.Shocks.length ≤ 16777216) : Ctr Tryz.prog 234 [w.v, .agg [.int .i64 k, .int .i64 n, .int .i64 v]] [] (.bool (df w k n v)) [] := by
 by_cases k1 : k = 1
 · subst k1
   refine Ctr.intro Tryz.mixed Tryz.func234 rfl Tryz.xk ?_
   simp -implicitDefEqProofs -dsimp only [go_sem, Tryz.ntmps234, Tryz.results234]
   simp -implicitDefEqProofs -dsimp only [go_sem, ab.v]
   repeat' (first | (refine al.ax ?_ (by rfl); first | rfl | (simp [df, *]; done)) | ((have ct := mu w n (by omega); (first | refine ak.at ct ⟨leA, leA, trivial⟩ ?_ | refine aj.at ct ⟨leA, leA, trivial⟩ ?_); clear ct); simp -implicitDefEqProofs -dsimp only [go_sem, *]) | (refine a8.bu (fun _ => ?_) (fun _ => ?_) <;> simp -implicitDefEqProofs -dsimp only [go_sem, *]) | (refine a8.ch (fun _ => ?_) (fun _ => ?_) <;> simp -implicitDefEqProofs -dsimp only [go_sem, *]) | (refine bd.split (fun _ => ?_) (fun _ => ?_) <;> simp -implicitDefEqProofs -dsimp only [go_sem, *]))
 by_cases k2 : k = 2 ∨ k = 3
 · rcases k2 with k2 | k2
   · subst k2
     refine Ctr.intro Tryz.mixed Tryz.func234 rfl Tryz.xk ?_
     simp -implicitDefEqProofs -dsimp only [go_sem, Tryz.ntmps234, Tryz.results234]
     simp -implicitDefEqProofs -dsimp only [go_sem, ab.v]
     repeat' (first | (refine al.ax ?_ (by rfl); first | rfl | (simp [df, *]; done)) | ((have ct := mu w n (by omega); (first | refine ak.at ct ⟨leA, leA, trivial⟩ ?_ | refine aj.at ct ⟨leA, leA, trivial⟩ ?_); clear ct); simp -implicitDefEqProofs -dsimp only [go_sem, *]) | (refine a8.bu (fun _ => ?_) (fun _ => ?_) <;> simp -implicitDefEqProofs -dsimp only [go_sem, *]) | (refine a8.ch (fun _ => ?_) (fun _ => ?_) <;> simp -implicitDefEqProofs -dsimp only [go_sem, *]) | (refine bd.split (fun _ => ?_) (fun _ => ?_) <;> simp -implicitDefEqProofs -dsimp only [go_sem, *]))
   · subst k2
     refine Ctr.intro Tryz.mixed Tryz.func234 rfl Tryz.xk ?_
     simp -implicitDefEqProofs -dsimp only [go_sem, Tryz.ntmps234, Tryz.results234]
     simp -implicitDefEqProofs -dsimp only [go_sem, ab.v]
     repeat' (first | (refine al.ax ?_ (by rfl); first | rfl | (simp [df, *]; done)) | ((have ct := mu w n (by omega); (first | refine ak.at ct ⟨leA, leA, trivial⟩ ?_ | refine aj.at ct ⟨leA, leA, trivial⟩ ?_); clear ct); simp -implicitDefEqProofs -dsimp only [go_sem, *]) | (refine a8.bu (fun _ => ?_) (fun _ => ?_) <;> simp -implicitDefEqProofs -dsimp only [go_sem, *]) | (refine a8.ch (fun _ => ?_) (fun _ => ?_) <;> simp -implicitDefEqProofs -dsimp only [go_sem, *]) | (refine bd.split (fun _ => ?_) (fun _ => ?_) <;> simp -implicitDefEqProofs -dsimp only [go_sem, *]))
 by_cases k4 : k = 4
 · subst k4
   refine Ctr.intro Tryz.mixed Tryz.func234 rfl Tryz.xk ?_
   simp -implicitDefEqProofs -dsimp only [go_sem, Tryz.ntmps234, Tryz.results234]
   simp -implicitDefEqProofs -dsimp only [go_sem, ab.v]
   repeat' (first | (refine al.ax ?_ (by rfl); first | rfl | (simp [df, *]; done)) | ((have ct := mu w n (by omega); (first | refine ak.at ct ⟨leA, leA, trivial⟩ ?_ | refine aj.at ct ⟨leA, leA, trivial⟩ ?_); clear ct); simp -implicitDefEqProofs -dsimp only [go_sem, *]) | (refine a8.bu (fun _ => ?_) (fun _ => ?_) <;> simp -implicitDefEqProofs -dsimp only [go_sem, *]) | (refine a8.ch (fun _ => ?_) (fun _ => ?_) <;> simp -implicitDefEqProofs -dsimp only [go_sem, *]) | (refine bd.split (fun _ => ?_) (fun _ => ?_) <;> simp -implicitDefEqProofs -dsimp only [go_sem, *]))
 by_cases k5 : k = 5
 · subst k5
   refine Ctr.intro Tryz.mixed Tryz.func234 rfl Tryz.xk ?_
   simp -implicitDefEqProofs -dsimp only [go_sem, Tryz.ntmps234, Tryz.results234]
   simp -implicitDefEqProofs -dsimp only [go_sem, ab.v]
   repeat' (first | (refine al.ax ?_ (by rfl); first | rfl | (simp [df, *]; done)) | ((have ct := jx w n (by omega); (first | refine ak.at ct ⟨leA, leA, trivial⟩ ?_ | refine aj.at ct ⟨leA, leA, trivial⟩ ?_); clear ct); simp -implicitDefEqProofs -dsimp only [go_sem, *]) | ((first | refine ak.at (ff _ _ _) ⟨leA, leA, leA, trivial⟩ ?_ | refine aj.at (ff _ _ _) ⟨leA, leA, leA, trivial⟩ ?_); simp -implicitDefEqProofs -dsimp only [go_sem, *]) | (refine a8.bu (fun _ => ?_) (fun _ => ?_) <;> simp -implicitDefEqProofs -dsimp only [go_sem, *]) | (refine a8.ch (fun _ => ?_) (fun _ => ?_) <;> simp -implicitDefEqProofs -dsimp only [go_sem, *]) | (refine bd.split (fun _ => ?_) (fun _ => ?_) <;> simp -implicitDefEqProofs -dsimp only [go_sem, *]))
 by_cases k6 : k = 6
 · subst k6
   refine Ctr.intro Tryz.mixed Tryz.func234 rfl Tryz.xk ?_
   simp -implicitDefEqProofs -dsimp only [go_sem, Tryz.ntmps234, Tryz.results234]
   simp -implicitDefEqProofs -dsimp only [go_sem, ab.v]
   repeat' (first | (refine al.ax ?_ (by rfl); first | rfl | (simp [df, *]; done)) | ((have ct := jx w n (by omega); (first | refine ak.at ct ⟨leA, leA, trivial⟩ ?_ | refine aj.at ct ⟨leA, leA, trivial⟩ ?_); clear ct); simp -implicitDefEqProofs -dsimp only [go_sem, *]) | ((first | refine ak.at (ff _ _ _) ⟨leA, leA, leA, trivial⟩ ?_ | refine aj.at (ff _ _ _) ⟨leA, leA, leA, trivial⟩ ?_); simp -implicitDefEqProofs -dsimp only [go_sem, *]) | (refine a8.bu (fun _ => ?_) (fun _ => ?_) <;> simp -implicitDefEqProofs -dsimp only [go_sem, *]) | (refine a8.ch (fun _ => ?_) (fun _ => ?_) <;> simp -implicitDefEqProofs -dsimp only [go_sem, *]) | (refine bd.split (fun _ => ?_) (fun _ => ?_) <;> simp -implicitDefEqProofs -dsimp only [go_sem, *]))
 have b1 : (k == 1) = false := by simp [k1]
 have b2 : (k == 2) = false := by simp at k2; simp [k2]
 have b3 : (k == 3) = false := by simp at k2; simp [k2]
 have b4 : (k == 4) = false := by simp [k4]
 have b5 : (k == 5) = false := by simp [k5]
 have b6 : (k == 6) = false := by simp [k6]
 have e : df w k n v = ((k == 7 || k == 8) && decide (0 ≤ jd (di n) w.Shocks) && v == 0) := by
   rw [df, if_neg k1, if_neg k2, if_neg k4, if_neg k5, if_neg k6]
 rw [e]
 clear e k1 k2 k4 k5 k6
 refine Ctr.intro Tryz.mixed Tryz.func234 rfl Tryz.xk ?_
 simp -implicitDefEqProofs -dsimp only [go_sem, Tryz.ntmps234, Tryz.results234]
 simp -implicitDefEqProofs -dsimp only [go_sem, b1, b2, b3, b4, b5, b6, ab.v]
 repeat' (first | (refine al.ax ?_ (by rfl); first | rfl | (simp [*]; done)) | ((have ct := jx w n (by omega); (first | refine ak.at ct ⟨leA, leA, trivial⟩ ?_ | refine aj.at ct ⟨leA, leA, trivial⟩ ?_); clear ct); simp -implicitDefEqProofs -dsimp only [go_sem, *]) | (refine a8.bu (fun _ => ?_) (fun _ => ?_) <;> simp -implicitDefEqProofs -dsimp only [go_sem, *]) | (refine a8.ch (fun _ => ?_) (fun _ => ?_) <;> simp -implicitDefEqProofs -dsimp only [go_sem, *]) | (refine bd.split (fun _ => ?_) (fun _ => ?_) <;> simp -implicitDefEqProofs -dsimp only [go_sem, *]))
theorem anc (w : ab) (k n v : Int) (hp : w.Posts.length ≤ 16777216) (hs : w.Shocks.length ≤ 16777216) : Ctr Tryz.prog 242 [w.v, .agg [.int .i64 k, .int .i64 n, .int .i64 v]] [] (.bool (df w k n v)) [] := by
 by_cases k1 : k = 1
 · subst k1
   refine Ctr.intro Tryz.mixed Tryz.func242 rfl Tryz.xe ?_
   simp -implicitDefEqProofs -dsimp only [go_sem, Tryz.ntmps242, Tryz.results242]
   simp -implicitDefEqProofs -dsimp only [go_sem, ab.v]
   repeat' (first | (refine al.ax ?_ (by rfl); first | rfl | (simp [df, *]; done)) | ((have ct := o6 w n (by omega); (first | refine ak.at ct ⟨leA, leA, trivial⟩ ?_ | refine aj.at ct ⟨leA, leA, trivial⟩ ?_); clear ct); simp -implicitDefEqProofs -dsimp only [go_sem, *]) | (refine a8.bu (fun _ => ?_) (fun _ => ?_) <;> simp -implicitDefEqProofs -dsimp only [go_sem, *]) | (refine a8.ch (fun _ => ?_) (fun _ => ?_) <;> simp -implicitDefEqProofs -dsimp only [go_sem, *]) | (refine bd.split (fun _ => ?_) (fun _ => ?_) <;> simp -implicitDefEqProofs -dsimp only [go_sem, *]))
 by_cases k2 : k = 2 ∨ k = 3
 · rcases k2 with k2 | k2
   · subst k2
     refine Ctr.intro Tryz.mixed Tryz.func242 rfl Tryz.xe ?_
     simp -implicitDefEqProofs -dsimp only [go_sem, Tryz.ntmps242, Tryz.results242]
     simp -implicitDefEqProofs -dsimp only [go_sem, ab.v]
     repeat' (first | (refine al.ax ?_ (by rfl); first | rfl | (simp [df, *]; done)) | ((have ct := o6 w n (by omega); (first | refine ak.at ct ⟨leA, leA, trivial⟩ ?_ | refine aj.at ct ⟨leA, leA, trivial⟩ ?_); clear ct); simp -implicitDefEqProofs -dsimp only [go_sem, *]) | (refine a8.bu (fun _ => ?_) (fun _ => ?_) <;> simp -implicitDefEqProofs -dsimp only [go_sem, *]) | (refine a8.ch (fun _ => ?_) (fun _ => ?_) <;> simp -implicitDefEqProofs -dsimp only [go_sem, *]) | (refine bd.split (fun _ => ?_) (fun _ => ?_) <;> simp -implicitDefEqProofs -dsimp only [go_sem, *]))
   · subst k2
     refine Ctr.intro Tryz.mixed Tryz.func242 rfl Tryz.xe ?_
     simp -implicitDefEqProofs -dsimp only [go_sem, Tryz.ntmps242, Tryz.results242]
     simp -implicitDefEqProofs -dsimp only [go_sem, ab.v]
     repeat' (first | (refine al.ax ?_ (by rfl); first | rfl | (simp [df, *]; done)) | ((have ct := o6 w n (by omega); (first | refine ak.at ct ⟨leA, leA, trivial⟩ ?_ | refine aj.at ct ⟨leA, leA, trivial⟩ ?_); clear ct); simp -implicitDefEqProofs -dsimp only [go_sem, *]) | (refine a8.bu (fun _ => ?_) (fun _ => ?_) <;> simp -implicitDefEqProofs -dsimp only [go_sem, *]) | (refine a8.ch (fun _ => ?_) (fun _ => ?_) <;> simp -implicitDefEqProofs -dsimp only [go_sem, *]) | (refine bd.split (fun _ => ?_) (fun _ => ?_) <;> simp -implicitDefEqProofs -dsimp only [go_sem, *]))
 by_cases k4 : k = 4
 · subst k4
   refine Ctr.intro Tryz.mixed Tryz.func242 rfl Tryz.xe ?_
   simp -implicitDefEqProofs -dsimp only [go_sem, Tryz.ntmps242, Tryz.results242]
   simp -implicitDefEqProofs -dsimp only [go_sem, ab.v]
   repeat' (first | (refine al.ax ?_ (by rfl); first | rfl | (simp [df, *]; done)) | ((have ct := o6 w n (by omega); (first | refine ak.at ct ⟨leA, leA, trivial⟩ ?_ | refine aj.at ct ⟨leA, leA, trivial⟩ ?_); clear ct); simp -implicitDefEqProofs -dsimp only [go_sem, *]) | (refine a8.bu (fun _ => ?_) (fun _ => ?_) <;> simp -implicitDefEqProofs -dsimp only [go_sem, *]) | (refine a8.ch (fun _ => ?_) (fun _ => ?_) <;> simp -implicitDefEqProofs -dsimp only [go_sem, *]) | (refine bd.split (fun _ => ?_) (fun _ => ?_) <;> simp -implicitDefEqProofs -dsimp only [go_sem, *]))
 by_cases k5 : k = 5
 · subst k5
   refine Ctr.intro Tryz.mixed Tryz.func242 rfl Tryz.xe ?_
   simp -implicitDefEqProofs -dsimp only [go_sem, Tryz.ntmps242, Tryz.results242]
   simp -implicitDefEqProofs -dsimp only [go_sem, ab.v]
   repeat' (first | (refine al.ax ?_ (by rfl); first | rfl | (simp [df, *]; done)) | ((have ct := jt w n (by omega); (first | refine ak.at ct ⟨leA, leA, trivial⟩ ?_ | refine aj.at ct ⟨leA, leA, trivial⟩ ?_); clear ct); simp -implicitDefEqProofs -dsimp only [go_sem, *]) | ((first | refine ak.at (ly _) ⟨leA, trivial⟩ ?_ | refine aj.at (ly _) ⟨leA, trivial⟩ ?_); simp -implicitDefEqProofs -dsimp only [go_sem, *]) | (refine a8.bu (fun _ => ?_) (fun _ => ?_) <;> simp -implicitDefEqProofs -dsimp only [go_sem, *]) | (refine a8.ch (fun _ => ?_) (fun _ => ?_) <;> simp -implicitDefEqProofs -dsimp only [go_sem, *]) | (refine bd.split (fun _ => ?_) (fun _ => ?_) <;> simp -implicitDefEqProofs -dsimp only [go_sem, *]))
 by_cases k6 : k = 6
 · subst k6
   refine Ctr.intro Tryz.mixed Tryz.func242 rfl Tryz.xe ?_
   simp -implicitDefEqProofs -dsimp only [go_sem, Tryz.ntmps242, Tryz.results242]
   simp -implicitDefEqProofs -dsimp only [go_sem, ab.v]
   repeat' (first | (refine al.ax ?_ (by rfl); first | rfl | (simp [df, *]; done)) | ((have ct := jt w n (by omega); (first | refine ak.at ct ⟨leA, leA, trivial⟩ ?_ | refine aj.at ct ⟨leA, leA, trivial⟩ ?_); clear ct); simp -implicitDefEqProofs -dsimp only [go_sem, *]) | ((first | refine ak.at (jy _ _ _) ⟨leA, leA, leA, trivial⟩ ?_ | refine aj.at (jy _ _ _) ⟨leA, leA, leA, trivial⟩ ?_); simp -implicitDefEqProofs -dsimp only [go_sem, *]) | (refine a8.bu (fun _ => ?_) (fun _ => ?_) <;> simp -implicitDefEqProofs -dsimp only [go_sem, *]) | (refine a8.ch (fun _ => ?_) (fun _ => ?_) <;> simp -implicitDefEqProofs -dsimp only [go_sem, *]) | (refine bd.split (fun _ => ?_) (fun _ => ?_) <;> simp -implicitDefEqProofs -dsimp only [go_sem, *]))
 have b1 : (k == 1) = false := by simp [k1]
 have b2 : (k == 2) = false := by simp at k2; simp [k2]
 have b3 : (k == 3) = false := by simp at k2; simp [k2]
 have b4 : (k == 4) = false := by simp [k4]
 have b5 : (k == 5) = false := by simp [k5]
 have b6 : (k == 6) = false := by simp [k6]
 have e : df w k n v = (eb k 7 8 && decide (0 ≤ jd (di n) w.Shocks) && v == 0) := by
   rw [df, if_neg k1, if_neg k2, if_neg k4, if_neg k5, if_neg k6]
   congr 2
   rw [Bool.eq_iff_iff]; simp [eb]; omega
 rw [e]
 clear e k1 k2 k4 k5 k6
 refine Ctr.intro Tryz.mixed Tryz.func242 rfl Tryz.xe ?_
 simp -implicitDefEqProofs -dsimp only [go_sem, Tryz.ntmps242, Tryz.results242]
 simp -implicitDefEqProofs -dsimp only [go_sem, b1, b2, b3, b4, b5, b6, ab.v]
 repeat' (first | (refine al.ax ?_ (by rfl); first | rfl | (simp [*]; done)) | ((first | refine ak.at (jy _ _ _) ⟨leA, leA, leA, trivial⟩ ?_ | refine aj.at (jy _ _ _) ⟨leA, leA, leA, trivial⟩ ?_); simp -implicitDefEqProofs -dsimp only [go_sem, *]) | ((have ct := jt w n (by omega); (first | refine ak.at ct ⟨leA, leA, trivial⟩ ?_ | refine aj.at ct ⟨leA, leA, trivial⟩ ?_); clear ct); simp -implicitDefEqProofs -dsimp only [go_sem, *]) | (refine a8.bu (fun _ => ?_) (fun _ => ?_) <;> simp -implicitDefEqProofs -dsimp only [go_sem, *]) | (refine a8.ch (fun _ => ?_) (fun _ => ?_) <;> simp -implicitDefEqProofs -dsimp only [go_sem, *]) | (refine bd.split (fun _ => ?_) (fun _ => ?_) <;> simp -implicitDefEqProofs -dsimp only [go_sem, *]))
theorem ix (w : ab) (hp : w.Posts.length ≤ 16777216) (hs : w.Shocks.length ≤ 16777216) : Ctr Tryz.prog 152 [w.v] [] (w.o 0 1) [some (rows az.cs w.Posts), some (rows an.cs w.Shocks)] := by
 refine Ctr.intro Tryz.mixed Tryz.func152 rfl Tryz.azk ?_
 simp -implicitDefEqProofs -dsimp only [go_sem, Tryz.ntmps152, Tryz.results152]
 simp -implicitDefEqProofs -dsimp only [go_sem, ab.v]
 refine chT.intro [true, true, false, true, true, false, false, true, true, false, true, true, true, true, false, false] [true, true, true, true, true, true, true, true, true, true, true, true, true, true, false, false] [none, none, some ⟨none, 5, 51, []⟩, none, none, some ⟨some 2, 8, 51, [7]⟩, some ⟨none, 9, 52, []⟩, none, none, some ⟨some 6, 12, 52, [11]⟩, none, none, none, none, none, none] [⟨5, 8, 51, [7]⟩, ⟨9, 12, 52, [11]⟩] (by kernel_rfl) (by rfl) ?_
 simp -implicitDefEqProofs -dsimp only [go_sem]
 repeat (with_reducible refine ah ?_)
 refine ⟨⟨by omega, by omega, kr _ _⟩, bb _, ⟨by omega, by omega, kr _ _⟩, ?_⟩
 refine al.pick [2, 3] (by decide) (fun j hj => by omega) (.inl ?_) ?_
 · first | rfl | (simp [ren, bg, posOf, ab.o]; done)
 · simp only [bc, List.map_cons, List.map_nil, bh, List.getElem?_cons_zero, List.getElem?_cons_succ, ae]
theorem agm (n t : Int) (x : an) (k m v : Int) (hx : kf n t x = true) (hk : k = 5 ∨ k = 6 ∨ k = 7) (hv : -100 ≤ v ∧ v ≤ 100) : Ctr Tryz.prog 268 [x.v, .agg [.int .i64 k, .int .i64 m, .int .i64 v]] [] (.tup [(vj x k v).v, .bool (aai x k)]) [] := by
 have hb := gq.1 hx
 have hw : IntKind.i64.wrap (x.Size + v) = x.Size + v := wrap_i64 (by omega) (by omega)
 rcases hk with hk | hk | hk
 · subst hk
   refine Ctr.intro Tryz.mixed Tryz.func268 rfl Tryz.ak0 ?_
   simp -implicitDefEqProofs -dsimp only [go_sem, Tryz.ntmps268, Tryz.results268]
   (repeat ((repeat1' (first | simp -implicitDefEqProofs -dsimp only [go_sem, an.v, hw] | simp -dsimp (disch := omega) only [wrap_i64])); repeat (with_reducible refine ah ?_)))
   refine n8.path [true, true, true, true, true, true, true, true, true, false, false] [false, false, false, false, false, true, true, true, true, false, false] 1 [2] (by kernel_rfl) ?_
   (repeat ((repeat1' (first | simp -implicitDefEqProofs -dsimp only [go_sem, an.v, hw] | simp -dsimp (disch := omega) only [wrap_i64])); repeat (with_reducible refine ah ?_)))
   repeat' (first | (refine al.ax ?_ (by rfl); first | rfl | (simp [vj, aai, an.v, *]; done)) | (refine a8.bu (fun _ => ?_) (fun _ => ?_) <;> (repeat ((repeat1' (first | simp -implicitDefEqProofs -dsimp only [go_sem, *] | simp -dsimp (disch := omega) only [wrap_i64])); repeat (with_reducible refine ah ?_)))) | (refine a8.ch (fun _ => ?_) (fun _ => ?_) <;> (repeat ((repeat1' (first | simp -implicitDefEqProofs -dsimp only [go_sem, *] | simp -dsimp (disch := omega) only [wrap_i64])); repeat (with_reducible refine ah ?_)))))
 · subst hk
   refine Ctr.intro Tryz.mixed Tryz.func268 rfl Tryz.ak0 ?_
   simp -implicitDefEqProofs -dsimp only [go_sem, Tryz.ntmps268, Tryz.results268]
   (repeat ((repeat1' (first | simp -implicitDefEqProofs -dsimp only [go_sem, an.v, hw] | simp -dsimp (disch := omega) only [wrap_i64])); repeat (with_reducible refine ah ?_)))
   refine n8.path [true, true, true, true, false, false] [false, true, true, true, false, false] 1 [2] (by kernel_rfl) ?_
   (repeat ((repeat1' (first | simp -implicitDefEqProofs -dsimp only [go_sem, an.v, hw] | simp -dsimp (disch := omega) only [wrap_i64])); repeat (with_reducible refine ah ?_)))
   repeat' (first | (refine al.ax ?_ (by rfl); first | rfl | (simp [vj, aai, an.v, *]; done)) | (refine a8.bu (fun _ => ?_) (fun _ => ?_) <;> (repeat ((repeat1' (first | simp -implicitDefEqProofs -dsimp only [go_sem, *] | simp -dsimp (disch := omega) only [wrap_i64])); repeat (with_reducible refine ah ?_)))) | (refine a8.ch (fun _ => ?_) (fun _ => ?_) <;> (repeat ((repeat1' (first | simp -implicitDefEqProofs -dsimp only [go_sem, *] | simp -dsimp (disch := omega) only [wrap_i64])); repeat (with_reducible refine ah ?_)))))
 · subst hk
   refine Ctr.intro Tryz.mixed Tryz.func268 rfl Tryz.ak0 ?_
   simp -implicitDefEqProofs -dsimp only [go_sem, Tryz.ntmps268, Tryz.results268]
   (repeat ((repeat1' (first | simp -implicitDefEqProofs -dsimp only [go_sem, an.v, hw] | simp -dsimp (disch := omega) only [wrap_i64])); repeat (with_reducible refine ah ?_)))
   refine n8.path [true, true, true, true, true, true, true, true, true, true, true, true, true, true, false, false] [false, false, false, false, false, false, false, false, false, true, true, true, true, true, false, false] 1 [2] (by kernel_rfl) ?_
   (repeat ((repeat1' (first | simp -implicitDefEqProofs -dsimp only [go_sem, an.v, hw] | simp -dsimp (disch := omega) only [wrap_i64])); repeat (with_reducible refine ah ?_)))
   repeat' (first | (refine al.ax ?_ (by rfl); first | rfl | (simp [vj, aai, an.v, *]; done)) | (refine a8.bu (fun _ => ?_) (fun _ => ?_) <;> (repeat ((repeat1' (first | simp -implicitDefEqProofs -dsimp only [go_sem, *] | simp -dsimp (disch := omega) only [wrap_i64])); repeat (with_reducible refine ah ?_)))) | (refine a8.ch (fun _ => ?_) (fun _ => ?_) <;> (repeat ((repeat1' (first | simp -implicitDefEqProofs -dsimp only [go_sem, *] | simp -dsimp (disch := omega) only [wrap_i64])); repeat (with_reducible refine ah ?_)))))
theorem ap2 (w : ab) (hp : w.Posts.length ≤ 16777216) : Ctr Tryz.prog 266 [w.v] [] (.int .i64 (upN w w.Posts.length : Int)) [] := by
 have hlen : ∀ i, upN w i ≤ i := fun i => Nat.le_trans (List.length_filter_le _ _) (by simp; omega)
 refine Ctr.intro Tryz.mixed Tryz.func266 rfl Tryz.ayj ?_
 simp -implicitDefEqProofs -dsimp only [go_sem, Tryz.ntmps266, Tryz.results266]
 simp -implicitDefEqProofs -dsimp only [go_sem, ab.v]
 refine cw.intro (fun i : Nat => i ≤ w.Posts.length) (fun i => ⟨[.undef, .ptr 0 0, .undef, .int .i64 (upN w i : Int), .int .i64 i, .undef, .undef, .undef, .undef, .undef, .undef, .undef, .undef, .undef, .undef, .undef, .undef, .undef, .undef, .undef, .undef], [some w.cs], 0⟩) (fun i => w.Posts.length - i) 0 (Nat.zero_le _) ?_ (fun i hi => ?_)
 · refine br.cut (1) (by simp) (by simp) ?_ ?_
   · simp [LeC, LeV, ren, bm, upN]
   · simp [cb, db, ren, ae, ab.cs]
 simp -implicitDefEqProofs -dsimp only [go_sem, ab.cs]
 refine bd.split (fun h1 => ?_) (fun h1 => ?_)
 · simp -implicitDefEqProofs -dsimp only [go_sem, h1, ab.cs]
   have hi' : i < w.Posts.length := by simpa using h1
   have hr := bt az.csl hi'
   have hll := hlen i
   have hs : upN w (i + 1) = upN w i + (if w.Posts[i].Up then 1 else 0) := by
     rw [upN, upN, List.take_succ_eq_append_getElem hi', List.filter_append, List.length_append]
     congr 1
     cases h : w.Posts[i].Up <;> simp [h]
   (repeat ((repeat1' (first | simp -implicitDefEqProofs -dsimp only [go_sem, hr, az.cs, ab.cs] | simp -dsimp (disch := omega) only [wrap_i64])); repeat (with_reducible refine ah ?_)))
   refine bd.split (fun h2 => ?_) (fun h2 => ?_) <;> (repeat ((repeat1' (first | simp -implicitDefEqProofs -dsimp only [go_sem, h2] | simp -dsimp (disch := omega) only [wrap_i64])); repeat (with_reducible refine ah ?_)))
   · refine ⟨i + 1, hi', ?_, by omega⟩
     rw [hs, h2]
     refine br.cut (1) (by simp) (by simp) ?_ ?_
     · simp [LeC, LeV, ren, bm]
     · simp [cb, db, ren, ae, ab.cs]
   · refine ⟨i + 1, hi', ?_, by omega⟩
     rw [hs, h2]
     refine br.cut (1) (by simp) (by simp) ?_ ?_
     · simp [LeC, LeV, ren, bm]
     · simp [cb, db, ren, ae, ab.cs]
 · simp -implicitDefEqProofs -dsimp only [go_sem, h1]
   have hi' : i = w.Posts.length := by simp at h1; omega
   subst hi'
   exact al.ax rfl (by rfl)
end Go.Proofs
end
section
set_option maxRecDepth 100000
set_option maxHeartbeats 1000000
namespace Go.Proofs
open Go.Lv
def iz (w : ab) (i : Nat) : ab := ⟨w.Now, w.Posts, w.Shocks.take i ++ w.Shocks.drop (i + 1), w.Next, w.Archived + 1⟩
theorem ae5 (w : ab) (i : Nat) (hw : wB w = true) (hi : i < w.Shocks.length) : Ctr Tryz.prog 267 [w.v, .int .i64 i] [] (.tup [(iz w i).o 0 1, .bool (ab8 w (aks w i))]) [some (rows az.cs w.Posts), some (rows an.cs (w.Shocks.take i ++ w.Shocks.drop (i + 1)))] := by
 have W := dt hw
 have hr := bt an.csl hi
 have pl := W.plen
 have sl := W.slen
 refine Ctr.intro Tryz.mixed Tryz.func267 rfl Tryz.aye ?_
 simp -implicitDefEqProofs -dsimp only [go_sem, Tryz.ntmps267, Tryz.results267]
 simp -implicitDefEqProofs -dsimp only [go_sem, ab.v]
 refine n8.path [true, true, true, true, true, true, true, true, true, false, false] [false, false, true, true, true, true, true, false, false, false, false] 1 [4] (by kernel_rfl) ?_
 simp -implicitDefEqProofs -dsimp only [go_sem]
 (have ct := ix w (by omega) (by omega); (first | refine ak.at ct ⟨leA, trivial⟩ ?_ | refine aj.at ct ⟨leA, trivial⟩ ?_); clear ct)
 (repeat ((repeat1' (first | simp -implicitDefEqProofs -dsimp only [go_sem, ab.o, hr, an.cs] | simp -dsimp (disch := omega) only [wrap_i64])); repeat (with_reducible refine ah ?_)))
 refine chT.intro [false, true, true, true, true, false, true, true, true, true, true, false, true, false] [true, true, true, true, true, true, true, true, true, true, true, true, true, false] [some ⟨none, 15, 52, []⟩, none, none, none, none, some ⟨some 0, 20, 52, [19]⟩, none, none, none, none, none, some ⟨some 5, 26, 52, [19, 25]⟩, none, none] [⟨11, 26, 52, [19, 25]⟩] (by kernel_rfl) (by rfl) ?_
 have hwi : IntKind.i64.wrap ((i : Int) + 1) = ((i + 1 : Nat) : Int) := by rw [wrap_i64 (by omega) (by omega)]; omega
 have ht := af9 an.csl w.Shocks i
 have hd := wa an.csl w.Shocks (i + 1)
 have hap : rows an.cs (w.Shocks.take i) ++ rows an.cs (w.Shocks.drop (i + 1)) = rows an.cs (w.Shocks.take i ++ w.Shocks.drop (i + 1)) := (cu _ _).symm
 have hln : i + (w.Shocks.length - (i + 1)) = (w.Shocks.take i ++ w.Shocks.drop (i + 1)).length := by simp; omega
 (repeat ((repeat1' (first | simp -implicitDefEqProofs -dsimp only [go_sem, hwi, Nat.sub_zero, ht, hd, hap, hln] | simp -dsimp (disch := omega) only [wrap_i64])); repeat (with_reducible refine ah ?_)))
 refine ⟨⟨by omega, by omega, kr _ _⟩, ?_⟩
 have hwa : IntKind.i64.wrap (w.Archived + 1) = w.Archived + 1 := by have := W.arch; exact wrap_i64 (by omega) (by omega)
 refine n8.path [true, true, true, true, true, true, true, true, true, true, true, true, true, true, true, true, true, false, false] [false, false, false, false, false, false, false, false, false, true, true, true, true, true, true, true, true, false, false] 1 [1] (by kernel_rfl) ?_
 (repeat ((repeat1' (first | simp -implicitDefEqProofs -dsimp only [go_sem, hwa] | simp -dsimp (disch := omega) only [wrap_i64])); repeat (with_reducible refine ah ?_)))
 have hx := W.shocks _ (List.getElem_mem hi)
 have hxb := gq.1 hx
 have hwn : IntKind.i64.wrap (w.Now - w.Shocks[i].Tick) = w.Now - w.Shocks[i].Tick := by have := W.now; exact wrap_i64 (by omega) (by omega)
 repeat' (first | (refine a8.bu (fun _ => ?_) (fun _ => ?_) <;> (repeat ((repeat1' (first | simp -implicitDefEqProofs -dsimp only [go_sem, *] | simp -dsimp (disch := omega) only [wrap_i64])); repeat (with_reducible refine ah ?_)))) | (refine a8.ch (fun _ => ?_) (fun _ => ?_) <;> (repeat ((repeat1' (first | simp -implicitDefEqProofs -dsimp only [go_sem, *] | simp -dsimp (disch := omega) only [wrap_i64])); repeat (with_reducible refine ah ?_)))))
 all_goals
   refine al.pick [2, 6] (by decide) (fun j hj => by omega) (.inl ?_) ?_
   · simp [ren, bg, posOf, iz, ab8, yq hi, *]
   · simp only [bc, List.map_cons, List.map_nil, bh, List.getElem?_cons_zero, List.getElem?_cons_succ, ae]
end Go.Proofs
end
