/-
  A part of the proof: texts put together by a program of the prover. Conditions: none.
-/
import Derived.Test.YtfpkiomipjmabaaGreatDoorZC9
import Derived.Test.YtfpkiomipjmabaaGreatDoorZC13
import Derived.Test.YtfpkiomipjmabaaGreatDoorZC14
import Derived.Test.YtfpkiomipjmabaaGreatDoorZC15
import Derived.Test.YtfpkiomipjmabaaGreatDoorZC16
import Derived.Test.YtfpkiomipjmabaaGreatDoorZC17
set_option linter.unusedSimpArgs false
set_option linter.unusedVariables false
section
set_option maxRecDepth 100000
set_option maxHeartbeats 1000000
namespace Go.Proofs
open Go.Lv
def ldP (L : List az) (o : Option Nat) (p : az) : Bool := match o with
 | none => true
 | some b => match L[b]? with
   | some q => decide (p.Since < q.Since)
   | none => true
def ld (L : List az) : Nat → Option Nat
 | 0 => none
 | i + 1 => match L[i]? with
   | none => ld L i
   | some p => if p.Up = false ∧ ldP L (ld L i) p = true then some i else ld L i
theorem aeg {L : List az} : ∀ {i b : Nat}, ld L i = some b → b < i ∧ b < L.length
 | 0, _, h => by simp [ld] at h
 | i + 1, b, h => by
   unfold ld at h
   split at h
   · have := aeg h; omega
   · rename_i r hr
     split at h
     · simp at h; subst h
       exact ⟨by omega, (List.getElem?_eq_some_iff.1 hr).1⟩
     · have := aeg h; omega
theorem tj {L : List az} {i : Nat} (hi : i < L.length) : ld L (i + 1) = if L[i].Up = false ∧ ldP L (ld L i) L[i] = true then some i else ld L i := by
 rw [ld, List.getElem?_eq_getElem hi]
def ldI (o : Option Nat) : Int := match o with
 | none => -1
 | some b => b
def mc (w : ab) : List V := if wB w = true then
   match ld w.Posts w.Posts.length with
   | none => [.int .i64 0, .int .i64 0, .bool false]
   | some b => match w.Posts[b]? with
     | some p => [.int .i64 p.Station, .int .i64 (w.Now - p.Since), .bool true]
     | none => [.int .i64 0, .int .i64 0, .bool false]
 else [.int .i64 0, .int .i64 0, .bool false]
theorem ajd {w : ab} (h : ld w.Posts w.Posts.length = none) : V.tup [.int .i64 0, .int .i64 0, .bool false] = .tup (mc w) := by
 unfold mc; rw [h]; split <;> rfl
theorem ad1 {w : ab} (hw : wB w = true) {b : Nat} (hb : b < w.Posts.length) (h : ld w.Posts w.Posts.length = some b) : V.tup [.int .i64 w.Posts[b].Station, .int .i64 (w.Now - w.Posts[b].Since), .bool true] = .tup (mc w) := by
 unfold mc; rw [h, if_pos hw]; simp [hb]
def aoa (L : List az) (o : Option Nat) : Int := match o with
 | none => 0
 | some b => match L[b]? with
   | some p => p.Station
   | none => 0
def tu (w : ab) (o : Option Nat) : Int := match o with
 | none => -1
 | some b => match w.Posts[b]? with
   | some p => w.Now - p.Since
   | none => -1
theorem abt (w : ab) (hp : w.Posts.length ≤ 16777216) (hs : w.Shocks.length ≤ 16777216) : Ctr Tryz.prog 208 [w.v] [] (.tup (mc w)) [] := by
 refine Ctr.intro Tryz.mixed Tryz.func208 rfl Tryz.ayg ?_
 simp -implicitDefEqProofs -dsimp only [go_sem, Tryz.ntmps208, Tryz.results208]
 simp -implicitDefEqProofs -dsimp only [go_sem, ab.v]
 cases h : wB w with
 | false => repeat' (first | exact al.refl _ _ _ | (refine al.ax ?_ (by rfl); first | rfl | (simp [h, mc, *]; done)) | ((have ct := de w (by omega) (by omega); (first | refine ak.at ct ⟨leA, trivial⟩ ?_ | refine aj.at ct ⟨leA, trivial⟩ ?_); clear ct); simp -implicitDefEqProofs -dsimp only [go_sem, h, mc, *]) | (refine a8.bu (fun _ => ?_) (fun _ => ?_) <;> simp -implicitDefEqProofs -dsimp only [go_sem, h, mc, *]) | (refine a8.ch (fun _ => ?_) (fun _ => ?_) <;> simp -implicitDefEqProofs -dsimp only [go_sem, h, mc, *]) | (refine bd.split (fun _ => ?_) (fun _ => ?_) <;> simp -implicitDefEqProofs -dsimp only [go_sem, h, mc, *]) | (exfalso; simp_all; done))
 | true =>
   have ok := dt h
   have hnow := ok.now
   repeat (first | ((have ct := de w (by omega) (by omega); (first | refine ak.at ct ⟨leA, trivial⟩ ?_ | refine aj.at ct ⟨leA, trivial⟩ ?_); clear ct); simp -implicitDefEqProofs -dsimp only [go_sem, h]) | (with_reducible refine And.intro (by first | omega | (show bp _ = true; kernel_rfl)) ?_; try (repeat1' (first | simp -implicitDefEqProofs -dsimp only [go_sem, h] | simp -dsimp (disch := omega) only [wrap_i64]))))
   refine cw.intro (fun i : Nat => i ≤ w.Posts.length) (fun i => ⟨[.undef, .ptr 0 0, .undef, .undef, .undef, .int .i64 (aoa w.Posts (ld w.Posts i)), .int .i64 (tu w (ld w.Posts i)), .undef, .undef, .undef, .undef, .undef, .undef, .undef, az.sl w.Posts, .int .i64 w.Posts.length, .int .i64 i, .undef, .undef, .undef, .undef, .undef, .undef, .undef, .undef, .undef, .undef, .undef, .undef, .undef, .undef, .undef, .undef, .undef, .undef, .undef, .undef, .undef, .undef, .undef, .undef], [some w.cs], 0⟩) (fun i => w.Posts.length - i) 0 (Nat.zero_le _) ?_ (fun i hi => ?_)
   · refine br.cut (1) (by simp) (by simp) ?_ ?_
     · simp [LeC, LeV, ren, bm, ld, aoa, tu]
     · simp [cb, db, ren, ab.cs]
   simp -implicitDefEqProofs -dsimp only [go_sem, ab.cs]
   refine bd.split (fun h1 => ?_) (fun h1 => ?_)
   · simp -implicitDefEqProofs -dsimp only [go_sem, h1]
     have hi' : i < w.Posts.length := by simpa using h1
     have h5 := az.csl w.Posts[i]
     have hr := bt az.csl hi'
     have hvi := ov.1 (ok.posts _ (List.getElem_mem hi'))
     (repeat ((repeat1' (first | simp -implicitDefEqProofs -dsimp only [go_sem, hr, az.cs, ab.cs] | simp -dsimp (disch := omega) only [wrap_i64])); repeat (with_reducible refine ah ?_)))
     have step : ∀ o, ld w.Posts (i + 1) = o → True := fun _ _ => trivial
     refine a8.bu (fun h2 => ?_) (fun h2 => ?_) <;> (repeat ((repeat1' (first | simp -implicitDefEqProofs -dsimp only [go_sem, h2, az.cs, ab.cs] | simp -dsimp (disch := omega) only [wrap_i64])); repeat (with_reducible refine ah ?_)))
     · have hup : w.Posts[i].Up = false := by simpa using h2
       refine bd.split (fun h3 => ?_) (fun h3 => ?_) <;> (repeat ((repeat1' (first | simp -implicitDefEqProofs -dsimp only [go_sem, h3, az.cs, ab.cs] | simp -dsimp (disch := omega) only [wrap_i64])); repeat (with_reducible refine ah ?_)))
       · have e : ld w.Posts (i + 1) = some i := by
           rw [tj hi', if_pos]
           refine ⟨hup, ?_⟩
           simp at h3
           cases ho : ld w.Posts i with
           | none => rfl
           | some b =>
             have hb := aeg ho
             rw [ho] at h3
             simp [tu, hb.2] at h3
             simp [ldP, hb.2]; omega
         refine ⟨i + 1, hi', ?_, by omega⟩
         refine br.cut (1) (by simp) (by simp) ?_ ?_
         · rw [e]
           simp [LeC, LeV, ren, bm, aoa, tu, hi']
         · simp [cb, db, ren, ab.cs]
       · have e : ld w.Posts (i + 1) = ld w.Posts i := by
           rw [tj hi', if_neg]
           rintro ⟨_, hq⟩
           simp at h3
           cases ho : ld w.Posts i with
           | none => rw [ho] at h3; simp [tu] at h3; omega
           | some b =>
             have hb := aeg ho
             rw [ho] at h3 hq
             simp [tu, hb.2] at h3
             simp [ldP, hb.2] at hq; omega
         refine ⟨i + 1, hi', ?_, by omega⟩
         refine br.cut (1) (by simp) (by simp) ?_ ?_
         · rw [e]
           simp [LeC, LeV, ren, bm]
         · simp [cb, db, ren, ab.cs]
     · have e : ld w.Posts (i + 1) = ld w.Posts i := by
         rw [tj hi', if_neg]
         rintro ⟨hq, _⟩
         simp [hq] at h2
       refine ⟨i + 1, hi', ?_, by omega⟩
       refine br.cut (1) (by simp) (by simp) ?_ ?_
       · rw [e]
         simp [LeC, LeV, ren, bm]
       · simp [cb, db, ren, ab.cs]
   · simp -implicitDefEqProofs -dsimp only [go_sem, h1]
     have hi' : i = w.Posts.length := by simp at h1; omega
     subst hi'
     cases ho : ld w.Posts w.Posts.length with
     | none =>
       simp -implicitDefEqProofs -dsimp only [go_sem, tu, aoa]
       exact al.ax (ajd ho) (by rfl)
     | some b =>
       have hb := (aeg ho).2
       have hvi := ov.1 (ok.posts _ (List.getElem_mem hb))
       have e1 : tu w (some b) = w.Now - w.Posts[b].Since := by simp [tu, hb]
       have e2 : aoa w.Posts (some b) = w.Posts[b].Station := by simp [aoa, hb]
       have e3 : decide (w.Now - w.Posts[b].Since < 0) = false := decide_eq_false (by omega)
       simp -implicitDefEqProofs -dsimp only [go_sem, e1, e2, e3]
       exact al.ax (ad1 h hb ho) (by rfl)
theorem abi (w : ab) (hp : w.Posts.length ≤ 16777216) (hs : w.Shocks.length ≤ 16777216) : Ctr Tryz.prog 217 [w.v] [] (.tup (mc w)) [] := by
 refine Ctr.intro Tryz.mixed Tryz.func217 rfl Tryz.ax8 ?_
 simp -implicitDefEqProofs -dsimp only [go_sem, Tryz.ntmps217, Tryz.results217]
 simp -implicitDefEqProofs -dsimp only [go_sem, ab.v]
 cases h : wB w with
 | false => repeat' (first | exact al.refl _ _ _ | (refine al.ax ?_ (by rfl); first | rfl | (simp [h, mc, *]; done)) | ((have ct := dv w (by omega) (by omega); (first | refine ak.at ct ⟨leA, trivial⟩ ?_ | refine aj.at ct ⟨leA, trivial⟩ ?_); clear ct); simp -implicitDefEqProofs -dsimp only [go_sem, h, mc, *]) | (refine a8.bu (fun _ => ?_) (fun _ => ?_) <;> simp -implicitDefEqProofs -dsimp only [go_sem, h, mc, *]) | (refine a8.ch (fun _ => ?_) (fun _ => ?_) <;> simp -implicitDefEqProofs -dsimp only [go_sem, h, mc, *]) | (refine bd.split (fun _ => ?_) (fun _ => ?_) <;> simp -implicitDefEqProofs -dsimp only [go_sem, h, mc, *]) | (exfalso; simp_all; done))
 | true =>
   have ok := dt h
   have hnow := ok.now
   repeat (first | ((have ct := dv w (by omega) (by omega); (first | refine ak.at ct ⟨leA, trivial⟩ ?_ | refine aj.at ct ⟨leA, trivial⟩ ?_); clear ct); simp -implicitDefEqProofs -dsimp only [go_sem, h]) | (with_reducible refine And.intro (by first | omega | (show bp _ = true; kernel_rfl)) ?_; try (repeat1' (first | simp -implicitDefEqProofs -dsimp only [go_sem, h] | simp -dsimp (disch := omega) only [wrap_i64]))))
   refine cw.intro (fun i : Nat => i ≤ w.Posts.length) (fun i => ⟨[.undef, .ptr 0 0, .undef, .undef, .undef, .int .i64 (ldI (ld w.Posts i)), .int .i64 i, .undef, .undef, .undef, .undef, .undef, .undef, .undef, .undef, .undef, .undef, .undef, .undef, .undef, .undef, .undef, .undef, .undef, .undef, .undef, .undef, .undef, .undef, .undef, .undef, .undef, .undef, .undef, .undef, .undef, .undef, .undef, .undef, .undef, .undef, .undef, .undef, .undef, .undef, .undef, .undef, .undef, .undef, .undef, .undef, .undef, .undef, .undef, .undef, .undef, .undef, .undef, .undef, .undef, .undef], [some w.cs], 0⟩) (fun i => w.Posts.length - i) 0 (Nat.zero_le _) ?_ (fun i hi => ?_)
   · refine br.cut (1) (by simp) (by simp) ?_ ?_
     · simp [LeC, LeV, ren, bm, ld, ldI]
     · simp [cb, db, ren, ab.cs]
   simp -implicitDefEqProofs -dsimp only [go_sem, ab.cs]
   refine bd.split (fun h1 => ?_) (fun h1 => ?_)
   · simp -implicitDefEqProofs -dsimp only [go_sem, h1]
     have hi' : i < w.Posts.length := by simpa using h1
     have h5 := az.csl w.Posts[i]
     have hr := bt az.csl hi'
     have keep : w.Posts[i].Up = true → ld w.Posts (i + 1) = ld w.Posts i := by
       intro hq
       rw [tj hi', if_neg]
       rintro ⟨h, _⟩
       simp [hq] at h
     cases ho : ld w.Posts i with
     | none =>
       have e0 : ldI none = -1 := rfl
       rw [e0]
       (repeat ((repeat1' (first | simp -implicitDefEqProofs -dsimp only [go_sem, hr, az.cs, ab.cs] | simp -dsimp (disch := omega) only [wrap_i64])); repeat (with_reducible refine ah ?_)))
       refine a8.bu (fun h2 => ?_) (fun h2 => ?_) <;> (repeat ((repeat1' (first | simp -implicitDefEqProofs -dsimp only [go_sem, h2, hr, az.cs, ab.cs] | simp -dsimp (disch := omega) only [wrap_i64])); repeat (with_reducible refine ah ?_)))
       · have hup : w.Posts[i].Up = false := by simpa using h2
         have e : ld w.Posts (i + 1) = some i := by
           rw [tj hi', if_pos]
           exact ⟨hup, by rw [ho]; rfl⟩
         refine ⟨i + 1, hi', ?_, by omega⟩
         refine br.cut (1) (by simp) (by simp) ?_ ?_
         · rw [e]
           simp [LeC, LeV, ren, bm, ldI]
         · simp [cb, db, ren, ab.cs]
       · have e : ld w.Posts (i + 1) = none := by rw [keep (by simpa using h2), ho]
         refine ⟨i + 1, hi', ?_, by omega⟩
         refine br.cut (1) (by simp) (by simp) ?_ ?_
         · rw [e]
           simp [LeC, LeV, ren, bm, ldI]
         · simp [cb, db, ren, ab.cs]
     | some b =>
       have hb := aeg ho
       have hrb := bt az.csl hb.2
       have h6 := az.csl w.Posts[b]
       have e0 : ldI (some b) = (b : Int) := rfl
       have e3 : decide ((b : Int) < 0) = false := decide_eq_false (by omega)
       rw [e0]
       (repeat ((repeat1' (first | simp -implicitDefEqProofs -dsimp only [go_sem, hr, az.cs, ab.cs] | simp -dsimp (disch := omega) only [wrap_i64])); repeat (with_reducible refine ah ?_)))
       refine a8.bu (fun h2 => ?_) (fun h2 => ?_) <;> (repeat ((repeat1' (first | simp -implicitDefEqProofs -dsimp only [go_sem, h2, e3, hr, hrb, az.cs, ab.cs] | simp -dsimp (disch := omega) only [wrap_i64])); repeat (with_reducible refine ah ?_)))
       · have hup : w.Posts[i].Up = false := by simpa using h2
         refine bd.split (fun h3 => ?_) (fun h3 => ?_) <;> (repeat ((repeat1' (first | simp -implicitDefEqProofs -dsimp only [go_sem, h3, hr, hrb, az.cs, ab.cs] | simp -dsimp (disch := omega) only [wrap_i64])); repeat (with_reducible refine ah ?_)))
         · have e : ld w.Posts (i + 1) = some i := by
             rw [tj hi', if_pos]
             exact ⟨hup, by rw [ho]; simpa [ldP, hb.2] using h3⟩
           refine ⟨i + 1, hi', ?_, by omega⟩
           refine br.cut (1) (by simp) (by simp) ?_ ?_
           · rw [e]
             simp [LeC, LeV, ren, bm, ldI]
           · simp [cb, db, ren, ab.cs]
         · have e : ld w.Posts (i + 1) = some b := by
             rw [tj hi', if_neg, ho]
             rintro ⟨_, hq⟩
             rw [ho] at hq
             simp [ldP, hb.2] at hq
             simp at h3
             omega
           refine ⟨i + 1, hi', ?_, by omega⟩
           refine br.cut (1) (by simp) (by simp) ?_ ?_
           · rw [e]
             simp [LeC, LeV, ren, bm, ldI]
           · simp [cb, db, ren, ab.cs]
       · have e : ld w.Posts (i + 1) = some b := by rw [keep (by simpa using h2), ho]
         refine ⟨i + 1, hi', ?_, by omega⟩
         refine br.cut (1) (by simp) (by simp) ?_ ?_
         · rw [e]
           simp [LeC, LeV, ren, bm, ldI]
         · simp [cb, db, ren, ab.cs]
   · simp -implicitDefEqProofs -dsimp only [go_sem, h1]
     have hi' : i = w.Posts.length := by simp at h1; omega
     subst hi'
     cases ho : ld w.Posts w.Posts.length with
     | none =>
       have e0 : ldI none = -1 := rfl
       rw [e0]
       simp -implicitDefEqProofs -dsimp only [go_sem]
       exact al.ax (ajd ho) (by rfl)
     | some b =>
       have hb := (aeg ho).2
       have hvi := ov.1 (ok.posts _ (List.getElem_mem hb))
       have hrb := bt az.csl hb
       have h6 := az.csl w.Posts[b]
       have e3 : decide ((b : Int) < 0) = false := decide_eq_false (by omega)
       have e0 : ldI (some b) = (b : Int) := rfl
       rw [e0]
       (repeat ((repeat1' (first | simp -implicitDefEqProofs -dsimp only [go_sem, e3, hrb, az.cs, ab.cs] | simp -dsimp (disch := omega) only [wrap_i64])); repeat (with_reducible refine ah ?_)))
       exact al.ax (ad1 h hb ho) (by rfl)
end Go.Proofs
end
section
set_option maxRecDepth 100000
set_option maxHeartbeats 2000000
namespace Go.Proofs
open Go.Lv
def abo (l : Log) (e : aw) : List V := if nc l = true ∧ iw e = true then (if l.Count = 60 then [l.v, .int .i64 2] else [.agg [.str l.Durable, .str (l.Pending ++ fu l.Count e), .int .i64 (l.Count + 1)], .int .i64 0]) else [l.v, .int .i64 1]
theorem xq {l : Log} (h : nc l = true) : 0 ≤ l.Count ∧ l.Count ≤ 60 := by
 simp [nc] at h
 have := (r5 (l.Durable ++ l.Pending)).2.2.2
 omega
theorem aau (l : Log) (e : aw) (hd : l.Durable.size ≤ 4194304) (hp : l.Pending.size ≤ 4194304) (hc : e.Command.size ≤ 4194304) (hr : e.Reply.size ≤ 4194304) : Ctr Tryz.prog 96 [l.v, e.v] [] (.tup (abo l e)) [] := by
 refine Ctr.intro Tryz.mixed Tryz.func96 rfl Tryz.a2o ?_
 simp -implicitDefEqProofs -dsimp only [go_sem, Tryz.ntmps96, Tryz.results96]
 simp -implicitDefEqProofs -dsimp only [go_sem, Log.v, aw.v]
 repeat (with_reducible refine And.intro ?_ ?_; focus (first | omega | with_reducible rfl | (show bp _ = true; kernel_rfl) | (simp only [ay, bb, List.length_append, List.length_cons, List.length_nil, List.all_append, List.all_cons, List.all_nil, bq, Nat.mul_one, Nat.one_mul, Bool.and_self]; first | done | omega) | (simp only [ByteArray.size_append, bo, List.size_toArray, List.length_cons, List.length_nil]; omega)))
 (have ct := um l hd hp; (first | refine ak.at ct ⟨leA, trivial⟩ ?_ | refine aj.at ct ⟨leA, trivial⟩ ?_); clear ct)
 simp -implicitDefEqProofs -dsimp only [go_sem]
 refine a8.ch (fun g1 => ?_) (fun g1 => ?_) <;> (repeat ((repeat1' (first | simp -implicitDefEqProofs -dsimp only [go_sem, g1] | simp -dsimp (disch := omega) only [wrap_i64])); repeat (with_reducible refine And.intro ?_ ?_; focus (first | omega | with_reducible rfl | (show bp _ = true; kernel_rfl) | (simp only [ay, bb, List.length_append, List.length_cons, List.length_nil, List.all_append, List.all_cons, List.all_nil, bq, Nat.mul_one, Nat.one_mul, Bool.and_self]; first | done | omega) | (simp only [ByteArray.size_append, bo, List.size_toArray, List.length_cons, List.length_nil]; omega)))))
 rotate_left
 · exact al.ax (by rw [abo, if_neg (by simp at g1; simp [g1])]; rfl) (by rfl)
 (have ct := lr e (by omega) (by omega); (first | refine ak.at ct ⟨leA, trivial⟩ ?_ | refine aj.at ct ⟨leA, trivial⟩ ?_); clear ct)
 simp -implicitDefEqProofs -dsimp only [go_sem]
 refine bd.split (fun g2 => ?_) (fun g2 => ?_) <;> (repeat ((repeat1' (first | simp -implicitDefEqProofs -dsimp only [go_sem, g2] | simp -dsimp (disch := omega) only [wrap_i64])); repeat (with_reducible refine And.intro ?_ ?_; focus (first | omega | with_reducible rfl | (show bp _ = true; kernel_rfl) | (simp only [ay, bb, List.length_append, List.length_cons, List.length_nil, List.all_append, List.all_cons, List.all_nil, bq, Nat.mul_one, Nat.one_mul, Bool.and_self]; first | done | omega) | (simp only [ByteArray.size_append, bo, List.size_toArray, List.length_cons, List.length_nil]; omega)))))
 · exact al.ax (by rw [abo, if_neg (by simp at g2; simp [g2])]; rfl) (by rfl)
 have hL : nc l = true := by simpa using g1
 have hE : iw e = true := by simpa using g2
 have hb := xq hL
 refine bd.split (fun g3 => ?_) (fun g3 => ?_) <;> (repeat ((repeat1' (first | simp -implicitDefEqProofs -dsimp only [go_sem, g3] | simp -dsimp (disch := omega) only [wrap_i64])); repeat (with_reducible refine And.intro ?_ ?_; focus (first | omega | with_reducible rfl | (show bp _ = true; kernel_rfl) | (simp only [ay, bb, List.length_append, List.length_cons, List.length_nil, List.all_append, List.all_cons, List.all_nil, bq, Nat.mul_one, Nat.one_mul, Bool.and_self]; first | done | omega) | (simp only [ByteArray.size_append, bo, List.size_toArray, List.length_cons, List.length_nil]; omega)))))
 · exact al.ax (by rw [abo, if_pos ⟨hL, hE⟩, if_pos (by simpa using g3)]; rfl) (by rfl)
 have g3' : ¬ l.Count = 60 := by simpa using g3
 have hk : 0 ≤ l.Count ∧ l.Count ≤ 59 := by omega
 have z1 := gb hk hE
 have z2 := il (dh l.Count e)
 have z3 : (fu l.Count e).size = (np (dh l.Count e)).size + 1 := by rw [fu, ByteArray.size_append]; rfl
 have hi := sf l.Count e (by omega) (by omega)
 rw [ala, if_pos ⟨fh.2 hk, hE⟩] at hi
 (first | refine ak.at (hi) ⟨leA, leA, trivial⟩ ?_ | refine aj.at (hi) ⟨leA, leA, trivial⟩ ?_)
 (repeat ((repeat1' (first | simp -implicitDefEqProofs -dsimp only [go_sem] | simp -dsimp (disch := omega) only [wrap_i64])); repeat (with_reducible refine And.intro ?_ ?_; focus (first | omega | with_reducible rfl | (show bp _ = true; kernel_rfl) | (simp only [ay, bb, List.length_append, List.length_cons, List.length_nil, List.all_append, List.all_cons, List.all_nil, bq, Nat.mul_one, Nat.one_mul, Bool.and_self]; first | done | omega) | (simp only [ByteArray.size_append, bo, List.size_toArray, List.length_cons, List.length_nil]; omega)))))
 exact al.ax (by rw [abo, if_pos ⟨hL, hE⟩, if_neg g3']) (by rfl)
theorem sc (l : Log) (e : aw) (hd : l.Durable.size ≤ 4194304) (hp : l.Pending.size ≤ 4194304) (hc : e.Command.size ≤ 4194304) (hr : e.Reply.size ≤ 4194304) : Ctr Tryz.prog 91 [l.v, e.v] [] (.tup (abo l e)) [] := by
 refine Ctr.intro Tryz.mixed Tryz.func91 rfl Tryz.a2d ?_
 simp -implicitDefEqProofs -dsimp only [go_sem, Tryz.ntmps91, Tryz.results91]
 simp -implicitDefEqProofs -dsimp only [go_sem, Log.v, aw.v]
 repeat (with_reducible refine And.intro ?_ ?_; focus (first | omega | with_reducible rfl | (show bp _ = true; kernel_rfl) | (simp only [ay, bb, List.length_append, List.length_cons, List.length_nil, List.all_append, List.all_cons, List.all_nil, bq, Nat.mul_one, Nat.one_mul, Bool.and_self]; first | done | omega) | (simp only [ByteArray.size_append, bo, List.size_toArray, List.length_cons, List.length_nil]; omega)))
 (have ct := wj l hd hp; (first | refine ak.at ct ⟨leA, trivial⟩ ?_ | refine aj.at ct ⟨leA, trivial⟩ ?_); clear ct)
 simp -implicitDefEqProofs -dsimp only [go_sem]
 refine a8.ch (fun g1 => ?_) (fun g1 => ?_) <;> (repeat ((repeat1' (first | simp -implicitDefEqProofs -dsimp only [go_sem, g1] | simp -dsimp (disch := omega) only [wrap_i64])); repeat (with_reducible refine And.intro ?_ ?_; focus (first | omega | with_reducible rfl | (show bp _ = true; kernel_rfl) | (simp only [ay, bb, List.length_append, List.length_cons, List.length_nil, List.all_append, List.all_cons, List.all_nil, bq, Nat.mul_one, Nat.one_mul, Bool.and_self]; first | done | omega) | (simp only [ByteArray.size_append, bo, List.size_toArray, List.length_cons, List.length_nil]; omega)))))
 rotate_left
 · exact al.ax (by rw [abo, if_neg (by simp at g1; simp [g1])]; rfl) (by rfl)
 (have ct := pd e (by omega) (by omega); (first | refine ak.at ct ⟨leA, trivial⟩ ?_ | refine aj.at ct ⟨leA, trivial⟩ ?_); clear ct)
 simp -implicitDefEqProofs -dsimp only [go_sem]
 refine bd.split (fun g2 => ?_) (fun g2 => ?_) <;> (repeat ((repeat1' (first | simp -implicitDefEqProofs -dsimp only [go_sem, g2] | simp -dsimp (disch := omega) only [wrap_i64])); repeat (with_reducible refine And.intro ?_ ?_; focus (first | omega | with_reducible rfl | (show bp _ = true; kernel_rfl) | (simp only [ay, bb, List.length_append, List.length_cons, List.length_nil, List.all_append, List.all_cons, List.all_nil, bq, Nat.mul_one, Nat.one_mul, Bool.and_self]; first | done | omega) | (simp only [ByteArray.size_append, bo, List.size_toArray, List.length_cons, List.length_nil]; omega)))))
 · exact al.ax (by rw [abo, if_neg (by simp at g2; simp [g2])]; rfl) (by rfl)
 have hL : nc l = true := by simpa using g1
 have hE : iw e = true := by simpa using g2
 have hb := xq hL
 refine bd.split (fun g3 => ?_) (fun g3 => ?_) <;> (repeat ((repeat1' (first | simp -implicitDefEqProofs -dsimp only [go_sem, g3] | simp -dsimp (disch := omega) only [wrap_i64])); repeat (with_reducible refine And.intro ?_ ?_; focus (first | omega | with_reducible rfl | (show bp _ = true; kernel_rfl) | (simp only [ay, bb, List.length_append, List.length_cons, List.length_nil, List.all_append, List.all_cons, List.all_nil, bq, Nat.mul_one, Nat.one_mul, Bool.and_self]; first | done | omega) | (simp only [ByteArray.size_append, bo, List.size_toArray, List.length_cons, List.length_nil]; omega)))))
 · exact al.ax (by rw [abo, if_pos ⟨hL, hE⟩, if_pos (by simpa using g3)]; rfl) (by rfl)
 have g3' : ¬ l.Count = 60 := by simpa using g3
 have hk : 0 ≤ l.Count ∧ l.Count ≤ 59 := by omega
 have z1 := gb hk hE
 have z2 := il (dh l.Count e)
 have z3 : (fu l.Count e).size = (np (dh l.Count e)).size + 1 := by rw [fu, ByteArray.size_append]; rfl
 (have ct := ade l.Count e hk hE; (first | refine ak.at ct ⟨leA, leA, trivial⟩ ?_ | refine aj.at ct ⟨leA, leA, trivial⟩ ?_); clear ct)
 (repeat ((repeat1' (first | simp -implicitDefEqProofs -dsimp only [go_sem] | simp -dsimp (disch := omega) only [wrap_i64])); repeat (with_reducible refine And.intro ?_ ?_; focus (first | omega | with_reducible rfl | (show bp _ = true; kernel_rfl) | (simp only [ay, bb, List.length_append, List.length_cons, List.length_nil, List.all_append, List.all_cons, List.all_nil, bq, Nat.mul_one, Nat.one_mul, Bool.and_self]; first | done | omega) | (simp only [ByteArray.size_append, bo, List.size_toArray, List.length_cons, List.length_nil]; omega)))))
 exact al.ax (by rw [abo, if_pos ⟨hL, hE⟩, if_neg g3']) (by rfl)
end Go.Proofs
end
section
set_option maxRecDepth 100000
set_option maxHeartbeats 2000000
namespace Go.Proofs
open Go.Lv
def kwl : List ByteArray := [⟨#[119, 97, 105, 116]⟩, ⟨#[115, 104, 111, 99, 107]⟩, ⟨#[100, 111, 119, 110]⟩, ⟨#[117, 112]⟩, ⟨#[112, 117, 98, 108, 105, 115, 104]⟩, ⟨#[97, 114, 99, 104, 105, 118, 101]⟩, ⟨#[108, 111, 99, 97, 116, 101]⟩, ⟨#[114, 101, 118, 105, 101, 119]⟩, ⟨#[116, 101, 120, 116]⟩, ⟨#[110, 111, 119]⟩, ⟨#[112, 111, 115, 116, 115]⟩, ⟨#[116, 111, 100, 111]⟩, ⟨#[115, 116, 97, 116, 101, 115]⟩, ⟨#[108, 111, 110, 103, 101, 115, 116]⟩]
def kwd (h : ByteArray) : Nat := match kwl.findIdx? (fun x => decide (x = h)) with
 | some i => i + 1
 | none => 0
theorem am9 : kwl.Nodup := of_decide_eq_true (by kernel_rfl)
theorem lx {h : ByteArray} {i : Nat} (hi : i < kwl.length) : h = kwl[i] ↔ kwd h = i + 1 := by
 constructor
 · intro e
   have h1 : kwl.findIdx? (fun x => decide (x = h)) = some i := by
     rw [List.findIdx?_eq_some_iff_getElem]
     refine ⟨hi, by simp [e], fun j hj => ?_⟩
     have := List.pairwise_iff_getElem.1 am9 j i (by omega) hi hj
     simp [e, this]
   rw [kwd, h1]
 · intro e
   unfold kwd at e
   split at e
   · rename_i j hj
     rw [List.findIdx?_eq_some_iff_getElem] at hj
     obtain ⟨g1, g2, _⟩ := hj
     have : j = i := by omega
     subst this
     simpa using (of_decide_eq_true g2).symm
   · omega
theorem ayq (h : ByteArray) : kwd h ≤ 14 := by
 unfold kwd
 split
 · rename_i j hj
   rw [List.findIdx?_eq_some_iff_getElem] at hj
   obtain ⟨g1, _⟩ := hj
   have : kwl.length = 14 := rfl
   omega
 · omega
theorem kw1 {h : ByteArray} : h = (⟨#[119, 97, 105, 116]⟩ : ByteArray) ↔ kwd h = 1 := lx (i := 0) (by decide)
theorem kwb1 (h : ByteArray) : (h.toList == (⟨#[119, 97, 105, 116]⟩ : ByteArray).toList) = decide (kwd h = 1) := by rw [gg]; exact decide_eq_decide.2 kw1
theorem kw2 {h : ByteArray} : h = (⟨#[115, 104, 111, 99, 107]⟩ : ByteArray) ↔ kwd h = 2 := lx (i := 1) (by decide)
theorem kwb2 (h : ByteArray) : (h.toList == (⟨#[115, 104, 111, 99, 107]⟩ : ByteArray).toList) = decide (kwd h = 2) := by rw [gg]; exact decide_eq_decide.2 kw2
theorem kw3 {h : ByteArray} : h = (⟨#[100, 111, 119, 110]⟩ : ByteArray) ↔ kwd h = 3 := lx (i := 2) (by decide)
theorem kwb3 (h : ByteArray) : (h.toList == (⟨#[100, 111, 119, 110]⟩ : ByteArray).toList) = decide (kwd h = 3) := by rw [gg]; exact decide_eq_decide.2 kw3
theorem kw4 {h : ByteArray} : h = (⟨#[117, 112]⟩ : ByteArray) ↔ kwd h = 4 := lx (i := 3) (by decide)
theorem kwb4 (h : ByteArray) : (h.toList == (⟨#[117, 112]⟩ : ByteArray).toList) = decide (kwd h = 4) := by rw [gg]; exact decide_eq_decide.2 kw4
theorem kw5 {h : ByteArray} : h = (⟨#[112, 117, 98, 108, 105, 115, 104]⟩ : ByteArray) ↔ kwd h = 5 := lx (i := 4) (by decide)
theorem kwb5 (h : ByteArray) : (h.toList == (⟨#[112, 117, 98, 108, 105, 115, 104]⟩ : ByteArray).toList) = decide (kwd h = 5) := by rw [gg]; exact decide_eq_decide.2 kw5
theorem kw6 {h : ByteArray} : h = (⟨#[97, 114, 99, 104, 105, 118, 101]⟩ : ByteArray) ↔ kwd h = 6 := lx (i := 5) (by decide)
theorem kwb6 (h : ByteArray) : (h.toList == (⟨#[97, 114, 99, 104, 105, 118, 101]⟩ : ByteArray).toList) = decide (kwd h = 6) := by rw [gg]; exact decide_eq_decide.2 kw6
theorem kw7 {h : ByteArray} : h = (⟨#[108, 111, 99, 97, 116, 101]⟩ : ByteArray) ↔ kwd h = 7 := lx (i := 6) (by decide)
theorem kwb7 (h : ByteArray) : (h.toList == (⟨#[108, 111, 99, 97, 116, 101]⟩ : ByteArray).toList) = decide (kwd h = 7) := by rw [gg]; exact decide_eq_decide.2 kw7
theorem kw8 {h : ByteArray} : h = (⟨#[114, 101, 118, 105, 101, 119]⟩ : ByteArray) ↔ kwd h = 8 := lx (i := 7) (by decide)
theorem kwb8 (h : ByteArray) : (h.toList == (⟨#[114, 101, 118, 105, 101, 119]⟩ : ByteArray).toList) = decide (kwd h = 8) := by rw [gg]; exact decide_eq_decide.2 kw8
theorem kw9 {h : ByteArray} : h = (⟨#[116, 101, 120, 116]⟩ : ByteArray) ↔ kwd h = 9 := lx (i := 8) (by decide)
theorem kwb9 (h : ByteArray) : (h.toList == (⟨#[116, 101, 120, 116]⟩ : ByteArray).toList) = decide (kwd h = 9) := by rw [gg]; exact decide_eq_decide.2 kw9
theorem kw10 {h : ByteArray} : h = (⟨#[110, 111, 119]⟩ : ByteArray) ↔ kwd h = 10 := lx (i := 9) (by decide)
theorem avk (h : ByteArray) : (h.toList == (⟨#[110, 111, 119]⟩ : ByteArray).toList) = decide (kwd h = 10) := by rw [gg]; exact decide_eq_decide.2 kw10
theorem kw11 {h : ByteArray} : h = (⟨#[112, 111, 115, 116, 115]⟩ : ByteArray) ↔ kwd h = 11 := lx (i := 10) (by decide)
theorem avj (h : ByteArray) : (h.toList == (⟨#[112, 111, 115, 116, 115]⟩ : ByteArray).toList) = decide (kwd h = 11) := by rw [gg]; exact decide_eq_decide.2 kw11
theorem kw12 {h : ByteArray} : h = (⟨#[116, 111, 100, 111]⟩ : ByteArray) ↔ kwd h = 12 := lx (i := 11) (by decide)
theorem au0 (h : ByteArray) : (h.toList == (⟨#[116, 111, 100, 111]⟩ : ByteArray).toList) = decide (kwd h = 12) := by rw [gg]; exact decide_eq_decide.2 kw12
theorem kw13 {h : ByteArray} : h = (⟨#[115, 116, 97, 116, 101, 115]⟩ : ByteArray) ↔ kwd h = 13 := lx (i := 12) (by decide)
theorem ava (h : ByteArray) : (h.toList == (⟨#[115, 116, 97, 116, 101, 115]⟩ : ByteArray).toList) = decide (kwd h = 13) := by rw [gg]; exact decide_eq_decide.2 kw13
theorem kw14 {h : ByteArray} : h = (⟨#[108, 111, 110, 103, 101, 115, 116]⟩ : ByteArray) ↔ kwd h = 14 := lx (i := 13) (by decide)
theorem aup (h : ByteArray) : (h.toList == (⟨#[108, 111, 110, 103, 101, 115, 116]⟩ : ByteArray).toList) = decide (kwd h = 14) := by rw [gg]; exact decide_eq_decide.2 kw14
def jc (q : Nat) (ns : List Int) : Option (Int × Int × Int) := match ns with
 | [] => if q = 2 then some (4, 0, 0) else none
 | [n] => if q = 1 then some (1, 0, n) else if q = 3 then some (2, n, 0) else if q = 4 then some (3, n, 0) else if q = 5 then some (7, n, 0) else if q = 6 then some (8, n, 0) else none
 | [n, v] => if q = 7 then some (5, n, v) else if q = 8 then some (6, n, v) else none
 | _ => none
def ups (w : ab) : List Int := rf w.Posts w.Posts.length
def abq (w : ab) (n : Int) : Option ByteArray := (w.Shocks.find? (di n)).map o5
def lgO (w : ab) : Option (Int × Int) := match ld w.Posts w.Posts.length with
 | none => none
 | some b => match w.Posts[b]? with
   | some p => some (p.Station, w.Now - p.Since)
   | none => none
def ke (w : ab) (k n : Int) : Option ByteArray :=
 if k = 1 then some (num w.Now) else if k = 2 ∨ k = 3 then some (l7 (ups w)) else if k = 4 then some (num (w.Next - 1)) else if k = 8 then some (num w.Archived) else abq w n
def xd (w : ab) (q : Nat) : Option ByteArray :=
 if q = 10 then some (num w.Now) else if q = 11 then some (l7 (ups w)) else if q = 12 then some (l7 ((ng w).map an.Number)) else if q = 13 then some (l7 (cm w.Shocks)) else if q = 14 then (lgO w).map fun p => l7 [p.1, p.2] else none
noncomputable def td (L : List ByteArray) : Option (List Int) := if L.all (fun s => (cq s).isSome) = true then some (L.map fun s => (cq s).getD 0) else none
def lb (w : ab) (k n v : Int) : ab × ByteArray := match fa w k n v with
 | none => (w, wQ)
 | some b => (b, (ke b k n).getD wQ)
noncomputable def l9 (w : ab) (q : Nat) (ns : List Int) : ab × ByteArray := match jc q ns with
 | some (k, n, v) => lb w k n v
 | none => match ns with
   | [] => (w, (xd w q).getD wQ)
   | [n] => (w, if q = 9 then (abq w n).getD wQ else wQ)
   | _ => (w, wQ)
noncomputable def dm (w : ab) (line : ByteArray) : ab × ByteArray := match td (gw 32 line).tail with
 | none => (w, wQ)
 | some ns => l9 w (kwd ((gw 32 line).headD ⟨#[]⟩)) ns
theorem aap {w : ab} (h : wB w = true) (n : Int) : im w n = .tup [.str ((abq w n).getD ByteArray.empty), .bool (abq w n).isSome] := by
 rw [im, if_pos h, abq]
 cases w.Shocks.find? (di n) <;> rfl
theorem aj2 {w : ab} (h : wB w = true) : mc w = [.int .i64 ((lgO w).map Prod.fst |>.getD 0), .int .i64 ((lgO w).map Prod.snd |>.getD 0), .bool (lgO w).isSome] := by
 rw [mc, if_pos h, lgO]
 cases ld w.Posts w.Posts.length with
 | none => rfl
 | some b =>
   dsimp only
   cases w.Posts[b]? <;> rfl
theorem aop {w : ab} (h : wB w = true) : upR w = some (ups w) := if_pos h
theorem adb {w : ab} (h : wB w = true) : j2 w = some ((ng w).map an.Number) := if_pos h
theorem adu {w : ab} (h : wB w = true) : oh w = some (cm w.Shocks) := if_pos h
theorem ao5 {s : ByteArray} : -999999 ≤ (cq s).getD 0 ∧ (cq s).getD 0 ≤ 999999 := by
 cases h : cq s with
 | none => exact ⟨by decide, by decide⟩
 | some n => exact ⟨(xf h).1, (xf h).2.1⟩
theorem aaq {L : List ByteArray} {ns : List Int} (h : td L = some ns) : ∀ n ∈ ns, -999999 ≤ n ∧ n ≤ 999999 := by
 unfold td at h
 split at h
 · simp only [Option.some.injEq] at h
   subst h
   intro n hn
   obtain ⟨s, _, rfl⟩ := List.mem_map.1 hn
   exact ao5
 · cases h
theorem apk {c : UInt8} {s x : ByteArray} (h : gw c s = [x]) : x = s := by
 obtain ⟨l, h1, h2⟩ := se c s
 rw [h1] at h
 injection h with h3 h4
 have h5 := h2.1 h4
 rw [← h3, bef, if_neg (by rw [fnd] at h5; simpa using h5)]
theorem zu (c : UInt8) (s : ByteArray) : ∃ x l, gw c s = x :: l := by
 obtain ⟨l, h1, _⟩ := se c s
 exact ⟨_, _, h1⟩
theorem aef (c : UInt8) (s : ByteArray) : (gw c s).length ≤ s.size + 1 := by
 have := (adm c s s.size (Nat.le_refl _)).2
 rw [gw, List.length_append]
 simp only [List.length_cons, List.length_nil]; omega
theorem sv (c : UInt8) (s : ByteArray) : ∀ (i : Nat) (x : ByteArray), x ∈ (fm c s i).1 → x.size ≤ s.size
 | 0, x, h => by simp [fm] at h
 | i + 1, x, h => by
   by_cases hi : i < s.size
   · cases hc : (s[i]'hi == c) with
     | true =>
       rw [ow hi hc] at h
       rcases List.mem_append.1 h with h | h
       · exact sv c s i x h
       · simp only [List.mem_singleton] at h
         subst h
         rw [ByteArray.size_extract]; omega
     | false =>
       rw [r3 hi hc] at h
       exact sv c s i x h
   · rw [fm, dif_neg hi] at h
     exact sv c s i x h
theorem rz (c : UInt8) (s : ByteArray) {x : ByteArray} (h : x ∈ gw c s) : x.size ≤ s.size := by
 rw [gw] at h
 rcases List.mem_append.1 h with h | h
 · exact sv c s _ x h
 · simp only [List.mem_singleton] at h
   subst h
   rw [ByteArray.size_extract]; omega
theorem z6 {L : List ByteArray} {i : Nat} (hi : i < L.length) (h : (cq L[i]).isSome = false) : td L = none := by
 rw [td, if_neg]
 intro h2
 have := List.all_eq_true.1 h2 _ (List.getElem_mem hi)
 rw [h] at this; cases this
theorem xm {L : List ByteArray} (h : (L.take L.length).all (fun s => (cq s).isSome) = true) : td L = some (L.map fun s => (cq s).getD 0) := by
 rw [List.take_length] at h
 rw [td, if_pos h]
end Go.Proofs
end
section
set_option maxRecDepth 100000
set_option maxHeartbeats 4000000
namespace Go.Proofs
open Go.Lv
theorem vr (L : List Int) (hL : ∀ n ∈ L, iq n) (hl : L.length ≤ 100000) : Ctr Tryz.prog 201 [IntS.sl L] [] (.str (l7 L)) [] := by
 by_cases he : L = []
 · have c0 : ((L.length : Int) == 0) = true := by rw [he]; rfl
   refine Ctr.intro Tryz.mixed Tryz.func201 rfl Tryz.aqc ?_
   simp -implicitDefEqProofs -dsimp only [go_sem, Tryz.ntmps201, Tryz.results201]
   (repeat ((repeat1' (first | simp -implicitDefEqProofs -dsimp only [go_sem, c0] | simp -dsimp (disch := omega) only [wrap_i64])); repeat (with_reducible refine ah ?_)))
   exact al.ax (by rw [l7, if_pos he]; rfl) (by rfl)
 have hpos : 0 < L.length := List.length_pos_iff.2 he
 have c0 : ((L.length : Int) == 0) = false := by simp; omega
 refine Ctr.intro Tryz.mixed Tryz.func201 rfl Tryz.aqc ?_
 simp -implicitDefEqProofs -dsimp only [go_sem, Tryz.ntmps201, Tryz.results201]
 (repeat ((repeat1' (first | simp -implicitDefEqProofs -dsimp only [go_sem, c0] | simp -dsimp (disch := omega) only [wrap_i64])); repeat (with_reducible refine ah ?_)))
 refine cw.intro (fun i : Nat => i ≤ L.length) (fun i => ⟨[.undef, .undef, .undef, .osl 0 0 i 1, .undef, .undef, .undef, .undef, .undef, .undef, IntS.sl L, .int .i64 L.length, .int .i64 i, .undef, .undef, .undef, .undef, .undef, .undef, .undef, .undef, .undef, .undef, .undef], [some (rows StringS.cs ((L.take i).map num))], 0⟩) (fun i => L.length - i) 0 (Nat.zero_le _) ?_ (fun i hi => ?_)
 · refine br.cut (1) (by simp) (by simp) ?_ ?_
   · simp [LeC, LeV, ren, bm]
   · rfl
 simp -implicitDefEqProofs -dsimp only [go_sem]
 refine bd.split (fun h1 => ?_) (fun h1 => ?_)
 · have hi' : i < L.length := by have := of_decide_eq_true h1; omega
   have hr := bt IntS.csl hi'
   have hst : (L.take (i + 1)).map num = (L.take i).map num ++ [num L[i]] := by rw [List.take_succ_eq_append_getElem hi', List.map_append]; rfl
   have hlen : ((L.take i).map num).length = i := by simp; omega
   (repeat ((repeat1' (first | simp -implicitDefEqProofs -dsimp only [go_sem, h1, hr, IntS.cs] | simp -dsimp (disch := omega) only [wrap_i64])); repeat (with_reducible refine ah ?_)))
   (first | refine ak.at (qk L[i] (hL _ (List.getElem_mem hi'))) ⟨leA, trivial⟩ ?_ | refine aj.at (qk L[i] (hL _ (List.getElem_mem hi'))) ⟨leA, trivial⟩ ?_)
   (repeat ((repeat1' (first | simp -implicitDefEqProofs -dsimp only [go_sem, ay, bb, Nat.mul_one, hlen] | simp -dsimp (disch := omega) only [wrap_i64])); repeat (with_reducible refine ah ?_)))
   refine ⟨i + 1, hi', ?_, by omega⟩
   refine br.cut (1) (by simp) (by simp) ?_ ?_
   · simp [LeC, LeV, ren, bm]
   · rw [hst, ← dk]
     simp [cb, db, ren, bm, ae, cx, StringS.cs]
 · have hi' : i = L.length := by have := of_decide_eq_false h1; omega
   subst hi'
   have hsz := xw L hL
   have hjl := afc L
   (repeat ((repeat1' (first | simp -implicitDefEqProofs -dsimp only [go_sem, h1, List.take_length] | simp -dsimp (disch := omega) only [wrap_i64])); repeat (with_reducible refine ah ?_)))
   (have ct := asv (L.map num) (by rw [← hjl, e8]; omega) (by simp; omega); (first | refine ak.at ct ⟨leA, leA, trivial⟩ ?_ | refine aj.at ct ⟨leA, leA, trivial⟩ ?_); clear ct)
   (repeat ((repeat1' (first | simp -implicitDefEqProofs -dsimp only [go_sem] | simp -dsimp (disch := omega) only [wrap_i64])); repeat (with_reducible refine ah ?_)))
   refine al.ax ?_ (by rfl)
   rw [l7, if_neg he, ← hjl]
def aav (o : Option (Int × Int × Int)) : V := .agg [.int .i64 ((o.map fun p => p.1).getD 0), .int .i64 ((o.map fun p => p.2.1).getD 0), .int .i64 ((o.map fun p => p.2.2).getD 0)]
def M1 : List (Value × Value) := [(.string ⟨#[100, 111, 119, 110]⟩, .int .i64 2), (.string ⟨#[117, 112]⟩, .int .i64 3), (.string ⟨#[112, 117, 98, 108, 105, 115, 104]⟩, .int .i64 7), (.string ⟨#[97, 114, 99, 104, 105, 118, 101]⟩, .int .i64 8)]
def M2 : List (Value × Value) := [(.string ⟨#[108, 111, 99, 97, 116, 101]⟩, .int .i64 5), (.string ⟨#[114, 101, 118, 105, 101, 119]⟩, .int .i64 6)]
theorem aya (a b : ByteArray) : (a == b) = decide (a = b) := by
 by_cases e : a = b
 · subst e; simp only [decide_true]; exact (Go.MapKept.bytes_beq a a).2 rfl
 · rw [decide_eq_false e]
   cases h : (a == b)
   · rfl
   · exact absurd ((Go.MapKept.bytes_beq a b).1 h) e
theorem zo {a b : ByteArray} (h : ¬ a = b) : (a == b) = false := by rw [aya]; exact decide_eq_false h
theorem a4l (h : ByteArray) : jr .string (.string h) M1 0 = some (if kwd h = 3 then some (0, .int .i64 2) else if kwd h = 4 then some (1, .int .i64 3) else if kwd h = 5 then some (2, .int .i64 7) else if kwd h = 6 then some (3, .int .i64 8) else none) := by
 by_cases c3 : kwd h = 3
 · rw [if_pos c3]; have := kw3.2 c3; subst this; rfl
 by_cases c4 : kwd h = 4
 · rw [if_neg c3, if_pos c4]; have := kw4.2 c4; subst this; rfl
 by_cases c5 : kwd h = 5
 · rw [if_neg c3, if_neg c4, if_pos c5]; have := kw5.2 c5; subst this; rfl
 by_cases c6 : kwd h = 6
 · rw [if_neg c3, if_neg c4, if_neg c5, if_pos c6]; have := kw6.2 c6; subst this; rfl
 rw [if_neg c3, if_neg c4, if_neg c5, if_neg c6]
 simp only [M1, jr, Instr.sameNow, zo (fun e => c3 (kw3.1 e)), zo (fun e => c4 (kw4.1 e)), zo (fun e => c5 (kw5.1 e)), zo (fun e => c6 (kw6.1 e))]
theorem a2u (h : ByteArray) : jr .string (.string h) M2 0 = some (if kwd h = 7 then some (0, .int .i64 5) else if kwd h = 8 then some (1, .int .i64 6) else none) := by
 by_cases c3 : kwd h = 7
 · rw [if_pos c3]; have := kw7.2 c3; subst this; rfl
 by_cases c4 : kwd h = 8
 · rw [if_neg c3, if_pos c4]; have := kw8.2 c4; subst this; rfl
 rw [if_neg c3, if_neg c4]
 simp only [M2, jr, Instr.sameNow, zo (fun e => c3 (kw7.1 e)), zo (fun e => c4 (kw8.1 e))]
theorem ae6 (h : ByteArray) (ns : List Int) (hl : ns.length ≤ 100000) : Ctr Tryz.prog 147 [.str h, IntS.sl ns] [] (.tup [aav (jc (kwd h) ns), .bool (jc (kwd h) ns).isSome]) [] := by
 have f1 : jr .string (.string ⟨#[100, 111, 119, 110]⟩) [] 0 = some none := rfl
 have f2 : jr .string (.string ⟨#[117, 112]⟩) [(.string ⟨#[100, 111, 119, 110]⟩, .int .i64 2)] 0 = some none := by kernel_rfl
 have f3 : jr .string (.string ⟨#[112, 117, 98, 108, 105, 115, 104]⟩) [(.string ⟨#[100, 111, 119, 110]⟩, .int .i64 2), (.string ⟨#[117, 112]⟩, .int .i64 3)] 0 = some none := by kernel_rfl
 have f4 : jr .string (.string ⟨#[97, 114, 99, 104, 105, 118, 101]⟩) [(.string ⟨#[100, 111, 119, 110]⟩, .int .i64 2), (.string ⟨#[117, 112]⟩, .int .i64 3), (.string ⟨#[112, 117, 98, 108, 105, 115, 104]⟩, .int .i64 7)] 0 = some none := by kernel_rfl
 have f5 : jr .string (.string ⟨#[108, 111, 99, 97, 116, 101]⟩) [] 0 = some none := rfl
 have f6 : jr .string (.string ⟨#[114, 101, 118, 105, 101, 119]⟩) [(.string ⟨#[108, 111, 99, 97, 116, 101]⟩, .int .i64 5)] 0 = some none := by kernel_rfl
 have k1 := a4l h
 have k2 := a2u h
 have hb1 := kwb1 h
 have hb2 := kwb2 h
 have hq14 := ayq h
 generalize kwd h = q at *
 have hM1 : [(Value.string ⟨#[100, 111, 119, 110]⟩, Value.int .i64 2), (.string ⟨#[117, 112]⟩, .int .i64 3), (.string ⟨#[112, 117, 98, 108, 105, 115, 104]⟩, .int .i64 7), (.string ⟨#[97, 114, 99, 104, 105, 118, 101]⟩, .int .i64 8)] = M1 := rfl
 have hM2 : [(Value.string ⟨#[108, 111, 99, 97, 116, 101]⟩, Value.int .i64 5), (.string ⟨#[114, 101, 118, 105, 101, 119]⟩, .int .i64 6)] = M2 := rfl
 have hq : q = 0 ∨ q = 1 ∨ q = 2 ∨ q = 3 ∨ q = 4 ∨ q = 5 ∨ q = 6 ∨ q = 7 ∨ q = 8 ∨ 9 ≤ q := by omega
 have z00 : (((0 : Nat) : Int) == 0) = true := rfl
 have z01 : (((0 : Nat) : Int) == 1) = false := rfl
 have z02 : (((0 : Nat) : Int) == 2) = false := rfl
 have z10 : (((1 : Nat) : Int) == 0) = false := rfl
 have z11 : (((1 : Nat) : Int) == 1) = true := rfl
 have z12 : (((1 : Nat) : Int) == 2) = false := rfl
 have z20 : (((2 : Nat) : Int) == 0) = false := rfl
 have z21 : (((2 : Nat) : Int) == 1) = false := rfl
 have z22 : (((2 : Nat) : Int) == 2) = true := rfl
 rcases ns with _ | ⟨n1, _ | ⟨n2, _ | ⟨n3, L⟩⟩⟩
 · have c0 : ((([] : List Int).length : Int) == 0) = true := rfl
   have c1 : ((([] : List Int).length : Int) == 1) = false := rfl
   have c2 : ((([] : List Int).length : Int) == 2) = false := rfl
   rcases hq with rfl | rfl | rfl | rfl | rfl | rfl | rfl | rfl | rfl | hq
   all_goals (try simp only [Nat.reduceEqDiff, if_false, if_true] at k1 k2)
   case inr.inr.inr.inr.inr.inr.inr.inr.inr =>
     rw [if_neg (by omega), if_neg (by omega), if_neg (by omega), if_neg (by omega)] at k1
     rw [if_neg (by omega), if_neg (by omega)] at k2
     have d1 : decide (q = 1) = false := decide_eq_false (by omega)
     have d2 : decide (q = 2) = false := decide_eq_false (by omega)
     have e : jc q ([] : List Int) = none := by simp only [jc]; (repeat rw [if_neg (by omega)])
     rw [e]
     refine Ctr.intro Tryz.mixed Tryz.func147 rfl Tryz.u5 ?_
     simp -implicitDefEqProofs -dsimp only [go_sem, Tryz.ntmps147, Tryz.results147]
     (repeat ((repeat1' (first | simp -implicitDefEqProofs -dsimp only [go_sem, f1, f2, f3, f4, f5, f6, ua, List.nil_append, List.cons_append, hM1, hM2, hb1, hb2, d1, d2, c0, c1, c2, z00, z01, z02, z10, z11, z12, z20, z21, z22, k1, k2] | simp -dsimp (disch := omega) only [wrap_i64])); repeat (with_reducible refine ah ?_)))
     exact al.ax rfl (by rfl)
   all_goals
     refine Ctr.intro Tryz.mixed Tryz.func147 rfl Tryz.u5 ?_
     simp -implicitDefEqProofs -dsimp only [go_sem, Tryz.ntmps147, Tryz.results147]
     (repeat ((repeat1' (first | simp -implicitDefEqProofs -dsimp only [go_sem, f1, f2, f3, f4, f5, f6, ua, List.nil_append, List.cons_append, hM1, hM2, hb1, hb2, c0, c1, c2, z00, z01, z02, z10, z11, z12, z20, z21, z22, k1, k2, c0] | simp -dsimp (disch := omega) only [wrap_i64])); repeat (with_reducible refine ah ?_)))
     first | exact al.ax rfl (by rfl) | skip
 · have c0 : ((([n1] : List Int).length : Int) == 0) = false := rfl
   have c1 : ((([n1] : List Int).length : Int) == 1) = true := rfl
   have c2 : ((([n1] : List Int).length : Int) == 2) = false := rfl
   have hr0 : rows IntS.cs [n1] = [.int .i64 n1] := rfl
   rcases hq with rfl | rfl | rfl | rfl | rfl | rfl | rfl | rfl | rfl | hq
   all_goals (try simp only [Nat.reduceEqDiff, if_false, if_true] at k1 k2)
   case inr.inr.inr.inr.inr.inr.inr.inr.inr =>
     rw [if_neg (by omega), if_neg (by omega), if_neg (by omega), if_neg (by omega)] at k1
     rw [if_neg (by omega), if_neg (by omega)] at k2
     have d1 : decide (q = 1) = false := decide_eq_false (by omega)
     have d2 : decide (q = 2) = false := decide_eq_false (by omega)
     have e : jc q [n1] = none := by simp only [jc]; (repeat rw [if_neg (by omega)])
     rw [e]
     refine Ctr.intro Tryz.mixed Tryz.func147 rfl Tryz.u5 ?_
     simp -implicitDefEqProofs -dsimp only [go_sem, Tryz.ntmps147, Tryz.results147]
     (repeat ((repeat1' (first | simp -implicitDefEqProofs -dsimp only [go_sem, f1, f2, f3, f4, f5, f6, ua, List.nil_append, List.cons_append, hM1, hM2, hb1, hb2, d1, d2, c0, c1, c2, z00, z01, z02, z10, z11, z12, z20, z21, z22, k1, k2] | simp -dsimp (disch := omega) only [wrap_i64])); repeat (with_reducible refine ah ?_)))
     exact al.ax rfl (by rfl)
   all_goals
     refine Ctr.intro Tryz.mixed Tryz.func147 rfl Tryz.u5 ?_
     simp -implicitDefEqProofs -dsimp only [go_sem, Tryz.ntmps147, Tryz.results147]
     (repeat ((repeat1' (first | simp -implicitDefEqProofs -dsimp only [go_sem, f1, f2, f3, f4, f5, f6, ua, List.nil_append, List.cons_append, hM1, hM2, hb1, hb2, c0, c1, c2, z00, z01, z02, z10, z11, z12, z20, z21, z22, k1, k2, hr0] | simp -dsimp (disch := omega) only [wrap_i64])); repeat (with_reducible refine ah ?_)))
     first | exact al.ax rfl (by rfl) | skip
 · have c0 : ((([n1, n2] : List Int).length : Int) == 0) = false := rfl
   have c1 : ((([n1, n2] : List Int).length : Int) == 1) = false := rfl
   have c2 : ((([n1, n2] : List Int).length : Int) == 2) = true := rfl
   have hr0 : rows IntS.cs [n1, n2] = [.int .i64 n1, .int .i64 n2] := rfl
   rcases hq with rfl | rfl | rfl | rfl | rfl | rfl | rfl | rfl | rfl | hq
   all_goals (try simp only [Nat.reduceEqDiff, if_false, if_true] at k1 k2)
   case inr.inr.inr.inr.inr.inr.inr.inr.inr =>
     rw [if_neg (by omega), if_neg (by omega), if_neg (by omega), if_neg (by omega)] at k1
     rw [if_neg (by omega), if_neg (by omega)] at k2
     have d1 : decide (q = 1) = false := decide_eq_false (by omega)
     have d2 : decide (q = 2) = false := decide_eq_false (by omega)
     have e : jc q [n1, n2] = none := by simp only [jc]; (repeat rw [if_neg (by omega)])
     rw [e]
     refine Ctr.intro Tryz.mixed Tryz.func147 rfl Tryz.u5 ?_
     simp -implicitDefEqProofs -dsimp only [go_sem, Tryz.ntmps147, Tryz.results147]
     (repeat ((repeat1' (first | simp -implicitDefEqProofs -dsimp only [go_sem, f1, f2, f3, f4, f5, f6, ua, List.nil_append, List.cons_append, hM1, hM2, hb1, hb2, d1, d2, c0, c1, c2, z00, z01, z02, z10, z11, z12, z20, z21, z22, k1, k2] | simp -dsimp (disch := omega) only [wrap_i64])); repeat (with_reducible refine ah ?_)))
     exact al.ax rfl (by rfl)
   all_goals
     refine Ctr.intro Tryz.mixed Tryz.func147 rfl Tryz.u5 ?_
     simp -implicitDefEqProofs -dsimp only [go_sem, Tryz.ntmps147, Tryz.results147]
     (repeat ((repeat1' (first | simp -implicitDefEqProofs -dsimp only [go_sem, f1, f2, f3, f4, f5, f6, ua, List.nil_append, List.cons_append, hM1, hM2, hb1, hb2, c0, c1, c2, z00, z01, z02, z10, z11, z12, z20, z21, z22, k1, k2, hr0] | simp -dsimp (disch := omega) only [wrap_i64])); repeat (with_reducible refine ah ?_)))
     first | exact al.ax rfl (by rfl) | skip
 · have c1 : (((n1 :: n2 :: n3 :: L).length : Int) == 1) = false := by simp; omega
   have c2 : (((n1 :: n2 :: n3 :: L).length : Int) == 2) = false := by simp; omega
   have c0 : (((n1 :: n2 :: n3 :: L).length : Int) == 0) = false := by simp; omega
   have e : jc q (n1 :: n2 :: n3 :: L) = none := rfl
   rw [e]
   clear e
   generalize n1 :: n2 :: n3 :: L = ns at *
   rcases hq with rfl | rfl | rfl | rfl | rfl | rfl | rfl | rfl | rfl | hq
   all_goals (try simp only [Nat.reduceEqDiff, if_false, if_true] at k1 k2)
   case inr.inr.inr.inr.inr.inr.inr.inr.inr =>
     rw [if_neg (by omega), if_neg (by omega), if_neg (by omega), if_neg (by omega)] at k1
     rw [if_neg (by omega), if_neg (by omega)] at k2
     have d1 : decide (q = 1) = false := decide_eq_false (by omega)
     have d2 : decide (q = 2) = false := decide_eq_false (by omega)
     refine Ctr.intro Tryz.mixed Tryz.func147 rfl Tryz.u5 ?_
     simp -implicitDefEqProofs -dsimp only [go_sem, Tryz.ntmps147, Tryz.results147]
     (repeat ((repeat1' (first | simp -implicitDefEqProofs -dsimp only [go_sem, f1, f2, f3, f4, f5, f6, ua, List.nil_append, List.cons_append, hM1, hM2, hb1, hb2, d1, d2, c0, c1, c2, z00, z01, z02, z10, z11, z12, z20, z21, z22, k1, k2] | simp -dsimp (disch := omega) only [wrap_i64])); repeat (with_reducible refine ah ?_)))
     exact al.ax rfl (by rfl)
   all_goals
     refine Ctr.intro Tryz.mixed Tryz.func147 rfl Tryz.u5 ?_
     simp -implicitDefEqProofs -dsimp only [go_sem, Tryz.ntmps147, Tryz.results147]
     (repeat ((repeat1' (first | simp -implicitDefEqProofs -dsimp only [go_sem, f1, f2, f3, f4, f5, f6, ua, List.nil_append, List.cons_append, hM1, hM2, hb1, hb2, c0, c1, c2, z00, z01, z02, z10, z11, z12, z20, z21, z22, k1, k2, c0] | simp -dsimp (disch := omega) only [wrap_i64])); repeat (with_reducible refine ah ?_)))
     first | exact al.ax rfl (by rfl) | skip
end Go.Proofs
end
section
set_option maxRecDepth 100000
set_option maxHeartbeats 4000000
namespace Go.Proofs
open Go.Lv
def ai.oc (c : ai) (i j : Nat) : List V := [.int .i64 c.ab.Now, .osl i 0 c.ab.Posts.length 3, .osl j 0 c.ab.Shocks.length 5, .int .i64 c.ab.Next, .int .i64 c.ab.Archived, .str c.Log.Durable, .str c.Log.Pending, .int .i64 c.Log.Count]
def cW (c : ai) (b : ab) : ai := ⟨b, c.Log⟩
theorem amx (c : ai) (k n v : Int) (hw : wB c.ab = true) (hs : fa c.ab k n v = none) : Ctr Tryz.prog 148 [.ptr 0 0, .agg [.int .i64 k, .int .i64 n, .int .i64 v]] [some (c.oc 1 2), some (rows az.cs c.ab.Posts), some (rows an.cs c.ab.Shocks)] (.tup [.str ⟨#[]⟩, .bool false]) [some (c.oc 1 2), some (rows az.cs c.ab.Posts), some (rows an.cs c.ab.Shocks)] := by
 have W := dt hw
 have pl := W.plen
 have sl := W.slen
 have iS := wz c.ab k n v (by omega) (by omega)
 rw [hs] at iS
 simp only [aeq, ae2] at iS
 refine Ctr.intro Tryz.mixed Tryz.func148 rfl Tryz.ti ?_
 simp -implicitDefEqProofs -dsimp only [go_sem, Tryz.ntmps148, Tryz.results148]
 (repeat ((repeat1' (first | simp -implicitDefEqProofs -dsimp only [go_sem, ai.oc] | simp -dsimp (disch := omega) only [wrap_i64])); repeat (with_reducible refine ah ?_)))
 (first | refine ak.at (iS) ⟨leA, leA, trivial⟩ ?_ | refine aj.at (iS) ⟨leA, leA, trivial⟩ ?_)
 (repeat ((repeat1' (first | simp -implicitDefEqProofs -dsimp only [go_sem, avc] | simp -dsimp (disch := omega) only [wrap_i64])); repeat (with_reducible refine ah ?_)))
 refine al.pick [0, 1, 2] (by decide) (by decide) (.inl rfl) ?_
 simp [bc, bh, ren, bg, posOf, ae, ai.oc]
theorem ald (c : ai) (b : ab) (k n v : Int) (hs : fa c.ab k n v = some b) : Ctr Tryz.prog 148 [.ptr 0 0, .agg [.int .i64 k, .int .i64 n, .int .i64 v]] [some (c.oc 1 2), some (rows az.cs c.ab.Posts), some (rows an.cs c.ab.Shocks)] (.tup [.str ((ke b k n).getD ⟨#[]⟩), .bool (ke b k n).isSome]) [some ((cW c b).oc 3 4), some (rows az.cs c.ab.Posts), some (rows an.cs c.ab.Shocks), some (rows az.cs b.Posts), some (rows an.cs b.Shocks)] := by
 obtain ⟨hw, hst, _, _, hb⟩ := xz hs
 have W := dt hw
 have pl := W.plen
 have sl := W.slen
 have B := dt hb
 have bl := B.plen
 have bs := B.slen
 have bn := B.now
 have bx := B.next
 have ba := B.arch
 have iS := wz c.ab k n v (by omega) (by omega)
 rw [hs] at iS
 simp only [aeq, ae2] at iS
 have hup := sw b (by omega)
 have hlt := vr (ups b) (fun x hx => by
   obtain ⟨p, hp, rfl⟩ := List.mem_map.1 hx
   have := (ov.1 (B.posts p (List.mem_of_mem_take (List.mem_filter.1 hp).1))).1
   exact ⟨by omega, by omega⟩) (by have := yk b.Posts b.Posts.length; rw [ups]; omega)
 rcases oi hst with ⟨rfl, h1⟩ | hk | rfl | rfl | ⟨hk, h1⟩
 · have e : ke b 1 n = some (num b.Now) := rfl
   rw [e]
   refine Ctr.intro Tryz.mixed Tryz.func148 rfl Tryz.ti ?_
   simp -implicitDefEqProofs -dsimp only [go_sem, Tryz.ntmps148, Tryz.results148]
   (repeat ((repeat1' (first | simp -implicitDefEqProofs -dsimp only [go_sem, ai.oc] | simp -dsimp (disch := omega) only [wrap_i64])); repeat (with_reducible refine ah ?_)))
   (first | refine ak.at (iS) ⟨leA, leA, trivial⟩ ?_ | refine aj.at (iS) ⟨leA, leA, trivial⟩ ?_)
   (repeat ((repeat1' (first | simp -implicitDefEqProofs -dsimp only [go_sem, ab.o, ai.oc] | simp -dsimp (disch := omega) only [wrap_i64])); repeat (with_reducible refine ah ?_)))
   (have ct := qk b.Now ⟨by omega, by omega⟩; (first | refine ak.at ct ⟨leA, trivial⟩ ?_ | refine aj.at ct ⟨leA, trivial⟩ ?_); clear ct)
   (repeat ((repeat1' (first | simp -implicitDefEqProofs -dsimp only [go_sem, ai.oc] | simp -dsimp (disch := omega) only [wrap_i64])); repeat (with_reducible refine ah ?_)))
   refine al.pick [0, 1, 2, 4, 5] (by decide) (by decide) (.inl rfl) ?_
   simp [bc, bh, ren, bg, posOf, ae, ai.oc, cW]
 · have e : ke b k n = some (l7 (ups b)) := by rcases hk with rfl | rfl <;> rfl
   rw [e]
   rcases hk with rfl | rfl
   · skip
     refine Ctr.intro Tryz.mixed Tryz.func148 rfl Tryz.ti ?_
     simp -implicitDefEqProofs -dsimp only [go_sem, Tryz.ntmps148, Tryz.results148]
     (repeat ((repeat1' (first | simp -implicitDefEqProofs -dsimp only [go_sem, ai.oc] | simp -dsimp (disch := omega) only [wrap_i64])); repeat (with_reducible refine ah ?_)))
     (first | refine ak.at (iS) ⟨leA, leA, trivial⟩ ?_ | refine aj.at (iS) ⟨leA, leA, trivial⟩ ?_)
     (repeat ((repeat1' (first | simp -implicitDefEqProofs -dsimp only [go_sem, ab.o, ai.oc] | simp -dsimp (disch := omega) only [wrap_i64])); repeat (with_reducible refine ah ?_)))
     (first | refine ak.at (hup) ⟨leA, trivial⟩ ?_ | refine aj.at (hup) ⟨leA, trivial⟩ ?_)
     (repeat ((repeat1' (first | simp -implicitDefEqProofs -dsimp only [go_sem, ai.oc] | simp -dsimp (disch := omega) only [wrap_i64])); repeat (with_reducible refine ah ?_)))
     (first | refine ak.at (hlt) ⟨leA, trivial⟩ ?_ | refine aj.at (hlt) ⟨leA, trivial⟩ ?_)
     (repeat ((repeat1' (first | simp -implicitDefEqProofs -dsimp only [go_sem, ai.oc] | simp -dsimp (disch := omega) only [wrap_i64])); repeat (with_reducible refine ah ?_)))
     refine al.pick [0, 1, 2, 4, 5] (by decide) (by decide) (.inl rfl) ?_
     simp [bc, bh, ren, bg, posOf, ae, ai.oc, cW]
   · skip
     refine Ctr.intro Tryz.mixed Tryz.func148 rfl Tryz.ti ?_
     simp -implicitDefEqProofs -dsimp only [go_sem, Tryz.ntmps148, Tryz.results148]
     (repeat ((repeat1' (first | simp -implicitDefEqProofs -dsimp only [go_sem, ai.oc] | simp -dsimp (disch := omega) only [wrap_i64])); repeat (with_reducible refine ah ?_)))
     (first | refine ak.at (iS) ⟨leA, leA, trivial⟩ ?_ | refine aj.at (iS) ⟨leA, leA, trivial⟩ ?_)
     (repeat ((repeat1' (first | simp -implicitDefEqProofs -dsimp only [go_sem, ab.o, ai.oc] | simp -dsimp (disch := omega) only [wrap_i64])); repeat (with_reducible refine ah ?_)))
     (first | refine ak.at (hup) ⟨leA, trivial⟩ ?_ | refine aj.at (hup) ⟨leA, trivial⟩ ?_)
     (repeat ((repeat1' (first | simp -implicitDefEqProofs -dsimp only [go_sem, ai.oc] | simp -dsimp (disch := omega) only [wrap_i64])); repeat (with_reducible refine ah ?_)))
     (first | refine ak.at (hlt) ⟨leA, trivial⟩ ?_ | refine aj.at (hlt) ⟨leA, trivial⟩ ?_)
     (repeat ((repeat1' (first | simp -implicitDefEqProofs -dsimp only [go_sem, ai.oc] | simp -dsimp (disch := omega) only [wrap_i64])); repeat (with_reducible refine ah ?_)))
     refine al.pick [0, 1, 2, 4, 5] (by decide) (by decide) (.inl rfl) ?_
     simp [bc, bh, ren, bg, posOf, ae, ai.oc, cW]
 · have e : ke b 4 n = some (num (b.Next - 1)) := rfl
   rw [e]
   refine Ctr.intro Tryz.mixed Tryz.func148 rfl Tryz.ti ?_
   simp -implicitDefEqProofs -dsimp only [go_sem, Tryz.ntmps148, Tryz.results148]
   (repeat ((repeat1' (first | simp -implicitDefEqProofs -dsimp only [go_sem, ai.oc] | simp -dsimp (disch := omega) only [wrap_i64])); repeat (with_reducible refine ah ?_)))
   (first | refine ak.at (iS) ⟨leA, leA, trivial⟩ ?_ | refine aj.at (iS) ⟨leA, leA, trivial⟩ ?_)
   (repeat ((repeat1' (first | simp -implicitDefEqProofs -dsimp only [go_sem, ab.o, ai.oc] | simp -dsimp (disch := omega) only [wrap_i64])); repeat (with_reducible refine ah ?_)))
   (have ct := qk (b.Next - 1) ⟨by omega, by omega⟩; (first | refine ak.at ct ⟨leA, trivial⟩ ?_ | refine aj.at ct ⟨leA, trivial⟩ ?_); clear ct)
   (repeat ((repeat1' (first | simp -implicitDefEqProofs -dsimp only [go_sem, ai.oc] | simp -dsimp (disch := omega) only [wrap_i64])); repeat (with_reducible refine ah ?_)))
   refine al.pick [0, 1, 2, 4, 5] (by decide) (by decide) (.inl rfl) ?_
   simp [bc, bh, ren, bg, posOf, ae, ai.oc, cW]
 · have e : ke b 8 n = some (num b.Archived) := rfl
   rw [e]
   refine Ctr.intro Tryz.mixed Tryz.func148 rfl Tryz.ti ?_
   simp -implicitDefEqProofs -dsimp only [go_sem, Tryz.ntmps148, Tryz.results148]
   (repeat ((repeat1' (first | simp -implicitDefEqProofs -dsimp only [go_sem, ai.oc] | simp -dsimp (disch := omega) only [wrap_i64])); repeat (with_reducible refine ah ?_)))
   (first | refine ak.at (iS) ⟨leA, leA, trivial⟩ ?_ | refine aj.at (iS) ⟨leA, leA, trivial⟩ ?_)
   (repeat ((repeat1' (first | simp -implicitDefEqProofs -dsimp only [go_sem, ab.o, ai.oc] | simp -dsimp (disch := omega) only [wrap_i64])); repeat (with_reducible refine ah ?_)))
   (have ct := qk b.Archived ⟨by omega, by omega⟩; (first | refine ak.at ct ⟨leA, trivial⟩ ?_ | refine aj.at ct ⟨leA, trivial⟩ ?_); clear ct)
   (repeat ((repeat1' (first | simp -implicitDefEqProofs -dsimp only [go_sem, ai.oc] | simp -dsimp (disch := omega) only [wrap_i64])); repeat (with_reducible refine ah ?_)))
   refine al.pick [0, 1, 2, 4, 5] (by decide) (by decide) (.inl rfl) ?_
   simp [bc, bh, ren, bg, posOf, ae, ai.oc, cW]
 · have hT := w2 b n (by omega) (by omega)
   rw [aap hb] at hT
   have e : ke b k n = abq b n := by rcases hk with rfl | rfl | rfl <;> rfl
   rw [e]
   rcases hk with rfl | rfl | rfl
   · skip
     refine Ctr.intro Tryz.mixed Tryz.func148 rfl Tryz.ti ?_
     simp -implicitDefEqProofs -dsimp only [go_sem, Tryz.ntmps148, Tryz.results148]
     (repeat ((repeat1' (first | simp -implicitDefEqProofs -dsimp only [go_sem, ai.oc] | simp -dsimp (disch := omega) only [wrap_i64])); repeat (with_reducible refine ah ?_)))
     (first | refine ak.at (iS) ⟨leA, leA, trivial⟩ ?_ | refine aj.at (iS) ⟨leA, leA, trivial⟩ ?_)
     (repeat ((repeat1' (first | simp -implicitDefEqProofs -dsimp only [go_sem, ab.o, ai.oc] | simp -dsimp (disch := omega) only [wrap_i64])); repeat (with_reducible refine ah ?_)))
     (first | refine ak.at (hT) ⟨leA, leA, trivial⟩ ?_ | refine aj.at (hT) ⟨leA, leA, trivial⟩ ?_)
     (repeat ((repeat1' (first | simp -implicitDefEqProofs -dsimp only [go_sem, ai.oc] | simp -dsimp (disch := omega) only [wrap_i64])); repeat (with_reducible refine ah ?_)))
     refine al.pick [0, 1, 2, 4, 5] (by decide) (by decide) (.inl rfl) ?_
     simp [bc, bh, ren, bg, posOf, ae, ai.oc, cW]
   · skip
     refine Ctr.intro Tryz.mixed Tryz.func148 rfl Tryz.ti ?_
     simp -implicitDefEqProofs -dsimp only [go_sem, Tryz.ntmps148, Tryz.results148]
     (repeat ((repeat1' (first | simp -implicitDefEqProofs -dsimp only [go_sem, ai.oc] | simp -dsimp (disch := omega) only [wrap_i64])); repeat (with_reducible refine ah ?_)))
     (first | refine ak.at (iS) ⟨leA, leA, trivial⟩ ?_ | refine aj.at (iS) ⟨leA, leA, trivial⟩ ?_)
     (repeat ((repeat1' (first | simp -implicitDefEqProofs -dsimp only [go_sem, ab.o, ai.oc] | simp -dsimp (disch := omega) only [wrap_i64])); repeat (with_reducible refine ah ?_)))
     (first | refine ak.at (hT) ⟨leA, leA, trivial⟩ ?_ | refine aj.at (hT) ⟨leA, leA, trivial⟩ ?_)
     (repeat ((repeat1' (first | simp -implicitDefEqProofs -dsimp only [go_sem, ai.oc] | simp -dsimp (disch := omega) only [wrap_i64])); repeat (with_reducible refine ah ?_)))
     refine al.pick [0, 1, 2, 4, 5] (by decide) (by decide) (.inl rfl) ?_
     simp [bc, bh, ren, bg, posOf, ae, ai.oc, cW]
   · skip
     refine Ctr.intro Tryz.mixed Tryz.func148 rfl Tryz.ti ?_
     simp -implicitDefEqProofs -dsimp only [go_sem, Tryz.ntmps148, Tryz.results148]
     (repeat ((repeat1' (first | simp -implicitDefEqProofs -dsimp only [go_sem, ai.oc] | simp -dsimp (disch := omega) only [wrap_i64])); repeat (with_reducible refine ah ?_)))
     (first | refine ak.at (iS) ⟨leA, leA, trivial⟩ ?_ | refine aj.at (iS) ⟨leA, leA, trivial⟩ ?_)
     (repeat ((repeat1' (first | simp -implicitDefEqProofs -dsimp only [go_sem, ab.o, ai.oc] | simp -dsimp (disch := omega) only [wrap_i64])); repeat (with_reducible refine ah ?_)))
     (first | refine ak.at (hT) ⟨leA, leA, trivial⟩ ?_ | refine aj.at (hT) ⟨leA, leA, trivial⟩ ?_)
     (repeat ((repeat1' (first | simp -implicitDefEqProofs -dsimp only [go_sem, ai.oc] | simp -dsimp (disch := omega) only [wrap_i64])); repeat (with_reducible refine ah ?_)))
     refine al.pick [0, 1, 2, 4, 5] (by decide) (by decide) (.inl rfl) ?_
     simp [bc, bh, ren, bg, posOf, ae, ai.oc, cW]
end Go.Proofs
end
section
set_option maxRecDepth 100000
set_option maxHeartbeats 4000000
namespace Go.Proofs
open Go.Lv
theorem aqb {α : Type} {lt : α → α → Bool} {y : α} {L : List α} (h : y ∈ cg lt L) : y ∈ L := by
 have key : ∀ (L S : List α), y ∈ L.foldl (ins lt) S → y ∈ S ∨ y ∈ L := by
   intro L
   induction L with
   | nil => intro S h; exact .inl h
   | cons a L ih =>
     intro S h
     rw [List.foldl_cons] at h
     rcases ih _ h with h | h
     · unfold ins putAt at h
       rcases List.mem_append.1 h with h | h
       · exact .inl (List.mem_of_mem_take h)
       · rcases List.mem_cons.1 h with h | h
         · exact .inr (h ▸ List.mem_cons_self)
         · exact .inl (List.mem_of_mem_drop h)
     · exact .inr (List.mem_cons_of_mem _ h)
 rcases key L [] h with h | h
 · cases h
 · exact h
theorem auh {w : ab} (h : wB w = true) : (∀ n ∈ ups w, iq n ∧ 1 ≤ n ∧ n ≤ 99) ∧ (ups w).length ≤ 8 := by
 have W := dt h
 refine ⟨fun x hx => ?_, by have := yk w.Posts w.Posts.length; have := W.plen; rw [ups]; omega⟩
 obtain ⟨p, hp, rfl⟩ := List.mem_map.1 hx
 have := (ov.1 (W.posts p (List.mem_of_mem_take (List.mem_filter.1 hp).1))).1
 exact ⟨⟨by omega, by omega⟩, this⟩
theorem au5 {w : ab} (h : wB w = true) : (∀ n ∈ (ng w).map an.Number, iq n ∧ 1 ≤ n ∧ n ≤ 999) ∧ ((ng w).map an.Number).length ≤ 6 := by
 have W := dt h
 refine ⟨fun x hx => ?_, ?_⟩
 · obtain ⟨y, hy, rfl⟩ := List.mem_map.1 hx
   have := (gq.1 (W.shocks y (List.mem_filter.1 (aqb hy)).1)).1
   have := W.next
   exact ⟨⟨by omega, by omega⟩, by omega, by omega⟩
 · have h1 := List.length_filter_le j8 w.Shocks
   have := W.slen
   rw [List.length_map, ng, ja]; omega
theorem auu {w : ab} (h : wB w = true) : (∀ n ∈ cm w.Shocks, iq n ∧ 0 ≤ n ∧ n ≤ 6) ∧ (cm w.Shocks).length ≤ 8 := by
 have W := dt h
 have h1 := qs (L := w.Shocks) w.Shocks.length (Nat.le_refl _)
 have h2 := ic (L := w.Shocks) w.Shocks.length (Nat.le_refl _)
 rw [List.take_length] at h1 h2
 have := W.slen
 exact ⟨fun n hn => by have := h1 n hn; exact ⟨⟨by omega, by omega⟩, by omega, by omega⟩, by omega⟩
theorem lg_r {w : ab} (h : wB w = true) : (1 ≤ ((lgO w).map Prod.fst).getD 1 ∧ ((lgO w).map Prod.fst).getD 1 ≤ 99) ∧ (0 ≤ ((lgO w).map Prod.snd).getD 0 ∧ ((lgO w).map Prod.snd).getD 0 ≤ 1000000) ∧ iq (((lgO w).map Prod.fst).getD 0) := by
 have W := dt h
 have hn := W.now
 rw [lgO]
 cases hl : ld w.Posts w.Posts.length with
 | none => refine ⟨⟨?_, ?_⟩, ⟨?_, ?_⟩, ⟨?_, ?_⟩⟩ <;> simp
 | some b =>
   dsimp only
   cases hp : w.Posts[b]? with
   | none => refine ⟨⟨?_, ?_⟩, ⟨?_, ?_⟩, ⟨?_, ?_⟩⟩ <;> simp
   | some p =>
     have hm : p ∈ w.Posts := List.mem_of_getElem? hp
     have := ov.1 (W.posts p hm)
     simp only [Option.map_some, Option.getD_some]
     exact ⟨by omega, by omega, by omega, by omega⟩
def as3 (w : ab) (q : Nat) : ByteArray := if q = 14 then l7 [((lgO w).map Prod.fst).getD 0, ((lgO w).map Prod.snd).getD 0] else (xd w q).getD ⟨#[]⟩
theorem at0 {w : ab} {q : Nat} {x : ByteArray} (h : xd w q = some x) : as3 w q = x := by
 unfold as3
 split
 · rename_i e
   subst e
   rw [show xd w 14 = (lgO w).map fun p => l7 [p.1, p.2] from rfl] at h
   cases hl : lgO w with
   | none => rw [hl] at h; cases h
   | some p => rw [hl] at h; simpa using h
 · rw [h]; rfl
theorem aho (L : List Int) (b : Bool) (hL : ∀ n ∈ L, iq n) (hl : L.length ≤ 100000) : Ctr Tryz.prog 204 [IntS.sl L, .bool b] [] (.tup [.str (l7 L), .bool b]) [] := by
 refine Ctr.intro Tryz.mixed Tryz.func204 rfl Tryz.axw ?_
 simp -implicitDefEqProofs -dsimp only [go_sem, Tryz.ntmps204, Tryz.results204]
 (repeat ((repeat1' (first | simp -implicitDefEqProofs -dsimp only [go_sem] | simp -dsimp (disch := omega) only [wrap_i64])); repeat (with_reducible refine ah ?_)))
 (have ct := vr L hL hl; (first | refine ak.at ct ⟨leA, trivial⟩ ?_ | refine aj.at ct ⟨leA, trivial⟩ ?_); clear ct)
 (repeat ((repeat1' (first | simp -implicitDefEqProofs -dsimp only [go_sem] | simp -dsimp (disch := omega) only [wrap_i64])); repeat (with_reducible refine ah ?_)))
 exact al.ax rfl (by rfl)
theorem azo (c : ai) (h : ByteArray) (hw : wB c.ab = true) : Ctr Tryz.prog 150 [.ptr 0 0, .str h] [some (c.oc 1 2), some (rows az.cs c.ab.Posts), some (rows an.cs c.ab.Shocks)] (.tup [.str (as3 c.ab (kwd h)), .bool (xd c.ab (kwd h)).isSome]) [some (c.oc 1 2), some (rows az.cs c.ab.Posts), some (rows an.cs c.ab.Shocks)] := by
 have W := dt hw
 have pl := W.plen
 have sl := W.slen
 have bn := W.now
 have iU := aj3 c.ab (by omega) (by omega)
 have iT := ah4 c.ab (by omega) (by omega)
 have iS := abu c.ab (by omega) (by omega)
 have iL := abt c.ab (by omega) (by omega)
 rw [aop hw] at iU
 rw [adb hw] at iT
 rw [adu hw] at iS
 rw [aj2 hw] at iL
 simp only [ri, ki] at iU iT iS
 have u := auh hw
 have r := au5 hw
 have s := auu hw
 have l := lg_r hw
 have lU := aho (ups c.ab) true (fun n hn => (u.1 n hn).1) (by omega)
 have lT := aho ((ng c.ab).map an.Number) true (fun n hn => (r.1 n hn).1) (by omega)
 have lS := aho (cm c.ab.Shocks) true (fun n hn => (s.1 n hn).1) (by omega)
 have lL := vr [((lgO c.ab).map Prod.fst).getD 0, ((lgO c.ab).map Prod.snd).getD 0] (fun n hn => by
   simp only [List.mem_cons, List.not_mem_nil, or_false] at hn
   rcases hn with rfl | rfl
   · exact l.2.2
   · exact ⟨by omega, by omega⟩) (by simp)
 have b10 := avk h
 have b11 := avj h
 have b12 := au0 h
 have b13 := ava h
 have b14 := aup h
 generalize kwd h = q at *
 have hq : q = 10 ∨ q = 11 ∨ q = 12 ∨ q = 13 ∨ q = 14 ∨ (q ≠ 10 ∧ q ≠ 11 ∧ q ≠ 12 ∧ q ≠ 13 ∧ q ≠ 14) := by omega
 rcases hq with rfl | rfl | rfl | rfl | rfl | ⟨q1, q2, q3, q4, q5⟩
 · skip
   refine Ctr.intro Tryz.mixed Tryz.func150 rfl Tryz.aaj ?_
   simp -implicitDefEqProofs -dsimp only [go_sem, Tryz.ntmps150, Tryz.results150]
   (repeat ((repeat1' (first | simp -implicitDefEqProofs -dsimp only [go_sem, ai.oc, b10, b11, b12, b13, b14] | simp -dsimp (disch := omega) only [wrap_i64])); repeat (with_reducible refine ah ?_)))
   (have ct := qk c.ab.Now ⟨by omega, by omega⟩; (first | refine ak.at ct ⟨leA, trivial⟩ ?_ | refine aj.at ct ⟨leA, trivial⟩ ?_); clear ct)
   (repeat ((repeat1' (first | simp -implicitDefEqProofs -dsimp only [go_sem] | simp -dsimp (disch := omega) only [wrap_i64])); repeat (with_reducible refine ah ?_)))
   refine al.pick [0, 1, 2] (by decide) (by decide) (.inl rfl) ?_
   simp [bc, bh, ren, bg, posOf, ae, ai.oc]
 · skip
   refine Ctr.intro Tryz.mixed Tryz.func150 rfl Tryz.aaj ?_
   simp -implicitDefEqProofs -dsimp only [go_sem, Tryz.ntmps150, Tryz.results150]
   (repeat ((repeat1' (first | simp -implicitDefEqProofs -dsimp only [go_sem, ai.oc, b10, b11, b12, b13, b14] | simp -dsimp (disch := omega) only [wrap_i64])); repeat (with_reducible refine ah ?_)))
   (first | refine ak.at (iU) ⟨leA, trivial⟩ ?_ | refine aj.at (iU) ⟨leA, trivial⟩ ?_)
   (repeat ((repeat1' (first | simp -implicitDefEqProofs -dsimp only [go_sem] | simp -dsimp (disch := omega) only [wrap_i64])); repeat (with_reducible refine ah ?_)))
   (first | refine ak.at (lU) ⟨leA, leA, trivial⟩ ?_ | refine aj.at (lU) ⟨leA, leA, trivial⟩ ?_)
   (repeat ((repeat1' (first | simp -implicitDefEqProofs -dsimp only [go_sem] | simp -dsimp (disch := omega) only [wrap_i64])); repeat (with_reducible refine ah ?_)))
   refine al.pick [0, 1, 2] (by decide) (by decide) (.inl rfl) ?_
   simp [bc, bh, ren, bg, posOf, ae, ai.oc]
 · skip
   refine Ctr.intro Tryz.mixed Tryz.func150 rfl Tryz.aaj ?_
   simp -implicitDefEqProofs -dsimp only [go_sem, Tryz.ntmps150, Tryz.results150]
   (repeat ((repeat1' (first | simp -implicitDefEqProofs -dsimp only [go_sem, ai.oc, b10, b11, b12, b13, b14] | simp -dsimp (disch := omega) only [wrap_i64])); repeat (with_reducible refine ah ?_)))
   (first | refine ak.at (iT) ⟨leA, trivial⟩ ?_ | refine aj.at (iT) ⟨leA, trivial⟩ ?_)
   (repeat ((repeat1' (first | simp -implicitDefEqProofs -dsimp only [go_sem] | simp -dsimp (disch := omega) only [wrap_i64])); repeat (with_reducible refine ah ?_)))
   (first | refine ak.at (lT) ⟨leA, leA, trivial⟩ ?_ | refine aj.at (lT) ⟨leA, leA, trivial⟩ ?_)
   (repeat ((repeat1' (first | simp -implicitDefEqProofs -dsimp only [go_sem] | simp -dsimp (disch := omega) only [wrap_i64])); repeat (with_reducible refine ah ?_)))
   refine al.pick [0, 1, 2] (by decide) (by decide) (.inl rfl) ?_
   simp [bc, bh, ren, bg, posOf, ae, ai.oc]
 · skip
   refine Ctr.intro Tryz.mixed Tryz.func150 rfl Tryz.aaj ?_
   simp -implicitDefEqProofs -dsimp only [go_sem, Tryz.ntmps150, Tryz.results150]
   (repeat ((repeat1' (first | simp -implicitDefEqProofs -dsimp only [go_sem, ai.oc, b10, b11, b12, b13, b14] | simp -dsimp (disch := omega) only [wrap_i64])); repeat (with_reducible refine ah ?_)))
   (first | refine ak.at (iS) ⟨leA, trivial⟩ ?_ | refine aj.at (iS) ⟨leA, trivial⟩ ?_)
   (repeat ((repeat1' (first | simp -implicitDefEqProofs -dsimp only [go_sem] | simp -dsimp (disch := omega) only [wrap_i64])); repeat (with_reducible refine ah ?_)))
   (first | refine ak.at (lS) ⟨leA, leA, trivial⟩ ?_ | refine aj.at (lS) ⟨leA, leA, trivial⟩ ?_)
   (repeat ((repeat1' (first | simp -implicitDefEqProofs -dsimp only [go_sem] | simp -dsimp (disch := omega) only [wrap_i64])); repeat (with_reducible refine ah ?_)))
   refine al.pick [0, 1, 2] (by decide) (by decide) (.inl rfl) ?_
   simp [bc, bh, ren, bg, posOf, ae, ai.oc]
 · have e : (xd c.ab 14).isSome = (lgO c.ab).isSome := by
     rw [show xd c.ab 14 = (lgO c.ab).map fun p => l7 [p.1, p.2] from rfl]; cases lgO c.ab <;> rfl
   rw [e]
   refine Ctr.intro Tryz.mixed Tryz.func150 rfl Tryz.aaj ?_
   simp -implicitDefEqProofs -dsimp only [go_sem, Tryz.ntmps150, Tryz.results150]
   (repeat ((repeat1' (first | simp -implicitDefEqProofs -dsimp only [go_sem, ai.oc, b10, b11, b12, b13, b14] | simp -dsimp (disch := omega) only [wrap_i64])); repeat (with_reducible refine ah ?_)))
   (first | refine ak.at (iL) ⟨leA, trivial⟩ ?_ | refine aj.at (iL) ⟨leA, trivial⟩ ?_)
   (repeat ((repeat1' (first | simp -implicitDefEqProofs -dsimp only [go_sem] | simp -dsimp (disch := omega) only [wrap_i64])); repeat (with_reducible refine ah ?_)))
   (first | refine ak.at (lL) ⟨leA, trivial⟩ ?_ | refine aj.at (lL) ⟨leA, trivial⟩ ?_)
   (repeat ((repeat1' (first | simp -implicitDefEqProofs -dsimp only [go_sem] | simp -dsimp (disch := omega) only [wrap_i64])); repeat (with_reducible refine ah ?_)))
   refine al.pick [0, 1, 2] (by decide) (by decide) (.inl rfl) ?_
   simp [bc, bh, ren, bg, posOf, ae, ai.oc]
 · have d0 : decide (q = 10) = false := decide_eq_false q1
   have d1 : decide (q = 11) = false := decide_eq_false q2
   have d2 : decide (q = 12) = false := decide_eq_false q3
   have d3 : decide (q = 13) = false := decide_eq_false q4
   have d4 : decide (q = 14) = false := decide_eq_false q5
   have e : xd c.ab q = none := by rw [xd, if_neg q1, if_neg q2, if_neg q3, if_neg q4, if_neg q5]
   rw [as3, if_neg q5, e]
   refine Ctr.intro Tryz.mixed Tryz.func150 rfl Tryz.aaj ?_
   simp -implicitDefEqProofs -dsimp only [go_sem, Tryz.ntmps150, Tryz.results150]
   (repeat ((repeat1' (first | simp -implicitDefEqProofs -dsimp only [go_sem, ai.oc, b10, b11, b12, b13, b14, d0, d1, d2, d3, d4] | simp -dsimp (disch := omega) only [wrap_i64])); repeat (with_reducible refine ah ?_)))
   refine al.pick [0, 1, 2] (by decide) (by decide) (.inl rfl) ?_
   simp [bc, bh, ren, bg, posOf, ae, ai.oc]
end Go.Proofs
end
section
namespace Go.Lv
theorem Ctr.rn {P : Program} {f : FuncId} {args : List V} {r r' : V} {hout hout' : Hp} (h : Ctr P f args [] r hout) (hw : al 0 r hout r' hout') : Ctr P f args [] r' hout' :=
 ⟨h.1, fun w vs m av h1 h2 h3 h4 h5 => (h.2 w vs m av h1 h2 h3 h4 h5).mono fun e w' ⟨v, m', g1, g2, g3, g4, g5⟩ => by
   obtain ⟨m2, k1, k2, k3⟩ := hw w m [] av w' m' v rfl (Nat.zero_le _) h2 g2.size g3 g4 g5
   exact ⟨v, m2, g1, g2, k1, k2, k3⟩⟩
section
variable {α : Type} {cs : α → List V} {w : Nat} [lp cs w]
end
end Go.Lv
end
