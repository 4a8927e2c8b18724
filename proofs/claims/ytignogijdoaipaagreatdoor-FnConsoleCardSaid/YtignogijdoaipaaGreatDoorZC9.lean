/-
  A part of the proof: texts put together by a program of the prover. Conditions: none.
-/
import Derived.Test.YtignogijdoaipaaGreatDoorZC3
import Derived.Test.YtignogijdoaipaaGreatDoorZC4
import Derived.ProofKit
import Derived.Deep.Slices
set_option linter.unusedSimpArgs false
set_option linter.unusedVariables false
section
open Go.ChangeShapes Go.WideShapes
namespace Go.Lv

def ShC (P : Program) : Nat → TypeId → List V → Prop
 | 0, _, _ => False
 | n + 1, t, xs =>
  match P.underlying t with
  | some .bool => ∃ b, xs = [.bool b]
  | some (.int k) => ∃ z, xs = [.int k z] ∧ (Lit.int k z).wf = true
  | some .string => ∃ s : ByteArray, xs = [.str s] ∧ s.size ≤ maxLen
  | some (.slice e) => ∃ l cs, xs = [.sl l (P.cellsOf e) cs] ∧ l ≤ maxLen ∧ cs.length = l * P.cellsOf e ∧ ∀ i, i < l → ShC P n e ((cs.drop (i * P.cellsOf e)).take (P.cellsOf e))
  | some (.struct fs) => xs.length = P.cellsOf t ∧ ∀ f ∈ fs.toList, ShC P n f.type ((xs.drop f.offset).take (P.cellsOf f.type))
  | _ => False

def tiled (P : Program) : List Field → Nat → Nat → Bool
 | [], off, n => off == n
 | f :: fs, off, n => f.offset == off && tiled P fs (off + P.cellsOf f.type) n

def aa4 (P : Program) : Nat → TypeId → Bool
 | 0, _ => false
 | n + 1, t =>
  match P.underlying t with
  | some .bool => true
  | some (.int _) => true
  | some .string => true
  | some (.slice e) => decide (0 < P.cellsOf e) && aa4 P n e
  | some (.struct fs) => tiled P fs.toList 0 (P.cellsOf t) && fs.toList.all fun f => aa4 P n f.type
  | _ => false

section
variable {P : Program} {w : World} {m : Nat → Nat}

def Rds (w : World) (m : Nat → Nat) (cs : List Value) (xs : List V) : Prop :=
 cs.length = xs.length ∧ ∀ i (hi : i < xs.length), RV w m [] (fun _ => False) false (cs.getD i Go.undef) xs[i]

theorem Rds.append {a b : List Value} {x y : List V} (h : Rds w m a x) (k : Rds w m b y) : Rds w m (a ++ b) (x ++ y) := by
 refine ⟨by simp [h.1, k.1], fun i hi => ?_⟩
 by_cases hlt : i < x.length
 · rw [List.getElem_append_left hlt]
   have := h.2 i hlt
   rw [List.getD_eq_getElem?_getD, List.getElem?_append_left (by rw [h.1]; exact hlt), ← List.getD_eq_getElem?_getD]
   exact this
 · rw [List.getElem_append_right (by omega)]
   have := k.2 (i - x.length) (by simp at hi; omega)
   rw [List.getD_eq_getElem?_getD, List.getElem?_append_right (by rw [h.1]; omega), ← List.getD_eq_getElem?_getD, h.1]
   exact this

theorem Rds.one {v : Value} {x : V} (h : RV w m [] (fun _ => False) false v x) : Rds w m [v] [x] :=
 ⟨rfl, fun i hi => by have : i = 0 := by simp at hi; omega
                      subst this; exact h⟩

theorem Rds.nil : Rds w m [] [] := ⟨rfl, fun i hi => by simp at hi⟩

theorem af5 {n : Nat} {cs : List Value} : ∀ (fs : List Field) (off : Nat), tiled P fs off cs.length = true → off ≤ cs.length →
 (∀ f ∈ fs, ∃ xs, Rds w m ((cs.drop f.offset).take (P.cellsOf f.type)) xs ∧ ShC P n f.type xs) →
 ∃ ys, Rds w m (cs.drop off) ys ∧ ∀ f ∈ fs, off ≤ f.offset ∧ ShC P n f.type ((ys.drop (f.offset - off)).take (P.cellsOf f.type))
 | [], off, ht, _, _ => by
  simp [tiled] at ht
  subst ht
  refine ⟨[], ?_, fun f hf => by simp at hf⟩
  rw [List.drop_of_length_le (Nat.le_refl _)]
  exact Rds.nil
 | f :: fs, off, ht, hle, h => by
  simp only [tiled, Bool.and_eq_true, beq_iff_eq] at ht
  obtain ⟨rfl, ht⟩ := ht
  have hlen : ∀ (fs : List Field) (o : Nat), tiled P fs o cs.length = true → o ≤ cs.length := by
   intro fs
   induction fs with
   | nil => intro o ht; simp [tiled] at ht; omega
   | cons g fs ih =>
    intro o ht
    simp only [tiled, Bool.and_eq_true, beq_iff_eq] at ht
    have := ih _ ht.2; omega
  have hk := hlen fs _ ht
  obtain ⟨x, hx1, hx2⟩ := h f (by simp)
  obtain ⟨ys, hy1, hy2⟩ := af5 fs _ ht hk (fun g hg => h g (by simp [hg]))
  have hxl : x.length = P.cellsOf f.type := by rw [← hx1.1]; simp; omega
  refine ⟨x ++ ys, ?_, fun g hg => ?_⟩
  · have : cs.drop f.offset = (cs.drop f.offset).take (P.cellsOf f.type) ++ cs.drop (f.offset + P.cellsOf f.type) := by
     rw [← List.drop_drop, List.take_append_drop]
    rw [this]
    exact hx1.append hy1
  · rcases List.mem_cons.1 hg with rfl | hg
    · refine ⟨Nat.le_refl _, ?_⟩
      rw [Nat.sub_self, List.drop_zero, List.take_append_of_le_length (by omega), List.take_of_length_le (by omega)]
      exact hx2
    · obtain ⟨h1, h2⟩ := hy2 g hg
      refine ⟨by omega, ?_⟩
      have : (x ++ ys).drop (g.offset - f.offset) = ys.drop (g.offset - (f.offset + P.cellsOf f.type)) := by
       rw [List.drop_append, List.drop_of_length_le (by omega), List.nil_append]
       congr 1
       omega
      rw [this]
      exact h2

theorem aju {n e : Nat} {b off len : Nat} (h : ∀ i, i < len → ∃ cs xs, cs.length = P.cellsOf e ∧ (∀ j, j < P.cellsOf e → w.cell? ⟨b, off + (i * P.cellsOf e + j), none⟩ = cs[j]?) ∧ Rds w m cs xs ∧ ShC P n e xs) :
 ∀ k, k ≤ len → ∃ xs : List V, xs.length = k * P.cellsOf e ∧ (∀ j (hj : j < xs.length), ∃ v, w.cell? ⟨b, off + j, none⟩ = some v ∧ RV w m [] (fun _ => False) false v xs[j]) ∧
  ∀ i, i < k → ShC P n e ((xs.drop (i * P.cellsOf e)).take (P.cellsOf e))
 | 0, _ => ⟨[], by simp, fun j hj => by simp at hj, fun i hi => by omega⟩
 | k + 1, hk => by
  obtain ⟨xs, h1, h2, h3⟩ := aju h k (by omega)
  obtain ⟨cs, ys, g1, g2, g3, g4⟩ := h k (by omega)
  have hyl : ys.length = P.cellsOf e := by rw [← g3.1, g1]
  refine ⟨xs ++ ys, by simp [h1, hyl, Nat.add_mul], fun j hj => ?_, fun i hi => ?_⟩
  · by_cases hlt : j < xs.length
    · rw [List.getElem_append_left hlt]
      exact h2 j hlt
    · rw [List.getElem_append_right (by omega)]
      have hj' : j - xs.length < ys.length := by simp at hj; omega
      have hr := g3.2 _ hj'
      have hc := g2 (j - xs.length) (by omega)
      have e1 : off + (k * P.cellsOf e + (j - xs.length)) = off + j := by omega
      rw [e1] at hc
      have hcl : j - xs.length < cs.length := by omega
      rw [List.getElem?_eq_getElem hcl] at hc
      refine ⟨_, hc, ?_⟩
      simpa [List.getD_eq_getElem?_getD, hcl] using hr
  · by_cases e2 : i = k
    · subst e2
      rw [← h1, List.drop_left, List.take_of_length_le (by omega)]
      exact g4
    · have hm : i * P.cellsOf e + P.cellsOf e ≤ xs.length := ada (n := k) (by omega) h1
      rw [List.drop_append_of_le_length (by omega), List.take_append_of_le_length (by simp; omega)]
      exact h3 i (by omega)

theorem af8 {H : Type} {enc : TypeId × Value → H} {spare : Nat → Bool} {held : Bool} : ∀ (n : Nat) (fuel : Nat) (t : TypeId) (cs : List Value) (x : DataW H × List MemPlace),
 DataW.trod enc P w 0 spare held fuel t cs = some x → aa4 P n t = true → ∃ xs, Rds w m cs xs ∧ ShC P n t xs
 | 0, fuel, t, cs, x, _, hp => by simp [aa4] at hp
 | n + 1, fuel, t, cs, x, hx, hp => by
  unfold aa4 at hp
  split at hp
  · rename_i hu
    obtain ⟨b, rfl, _⟩ := DataW.trod_bool hu hx
    exact ⟨[.bool b], Rds.one (.bool b), by unfold ShC; rw [hu]; exact ⟨b, rfl⟩⟩
  · rename_i k hu
    obtain ⟨z, rfl, _, hw⟩ := DataW.trod_int hu hx
    exact ⟨[.int k z], Rds.one (.int k z), by unfold ShC; rw [hu]; exact ⟨z, rfl, hw⟩⟩
  · rename_i hu
    obtain ⟨s, rfl, _, hs⟩ := DataW.trod_string hu hx
    exact ⟨[.str s], Rds.one (.str s), by unfold ShC; rw [hu]; exact ⟨s, rfl, hs⟩⟩
  · rename_i e hu
    simp only [Bool.and_eq_true, decide_eq_true_eq] at hp
    obtain ⟨hpos, hp⟩ := hp
    rcases Deep.open_slice hu hx with ⟨rfl, _⟩ | ⟨a, len, cap, mm, f, D, Pl, rfl, _, hle, hcap, hmm, _, hel⟩
    · refine ⟨[.sl 0 (P.cellsOf e) []], Rds.one (.slz _ _ _), ?_⟩
      unfold ShC; rw [hu]
      exact ⟨0, [], rfl, Nat.zero_le _, by simp, fun i hi => by omega⟩
    · by_cases h0 : len = 0
      · subst h0
        refine ⟨[.sl 0 (P.cellsOf e) []], Rds.one (.slz _ _ _), ?_⟩
        unfold ShC; rw [hu]
        exact ⟨0, [], rfl, Nat.zero_le _, by simp, fun i hi => by omega⟩
      · have hml : len ≤ mm := by rw [hmm]; split <;> omega
        obtain ⟨b, off, spot⟩ := a
        have hspot : spot = none := by
         obtain ⟨cs', hc, _⟩ := hel 0 (by omega)
         obtain ⟨_, hcl, hat⟩ := World.cells?_some hc
         have h1 := hat 0 hpos
         rw [List.getElem?_eq_getElem (by omega)] at h1
         simpa [Addr.add] using World.cell?_spot h1
        subst hspot
        have hall : ∀ i, i < len → ∃ cs xs, cs.length = P.cellsOf e ∧ (∀ j, j < P.cellsOf e → w.cell? ⟨b, off + (i * P.cellsOf e + j), none⟩ = cs[j]?) ∧ Rds w m cs xs ∧ ShC P n e xs := by
         intro i hi
         obtain ⟨cs', hc, ht⟩ := hel i (by omega)
         obtain ⟨_, hcl, hat⟩ := World.cells?_some hc
         obtain ⟨xs, h1, h2⟩ := af8 n _ e cs' _ ht hp
         refine ⟨cs', xs, hcl, fun j hj => ?_, h1, h2⟩
         have := hat j hj
         rw [Addr.add_lit, Addr.add_lit] at this
         rw [← this, Nat.add_assoc]
        obtain ⟨xs, h1, h2, h3⟩ := aju hall len (Nat.le_refl _)
        refine ⟨[.sl len (P.cellsOf e) xs], Rds.one (.sl b off len cap (P.cellsOf e) xs (fun j => (w.cell? ⟨b, off + j, none⟩).getD Go.undef) h1 (fun _ h => h) hle (fun j hj => ?_) (fun j hj => ?_)), ?_⟩
        · obtain ⟨v, hv, _⟩ := h2 j hj
          simp [hv]
        · obtain ⟨v, hv, hr⟩ := h2 j hj
          simpa [hv] using hr
        · unfold ShC; rw [hu]
          exact ⟨len, xs, rfl, by omega, h1, h3⟩
  · rename_i fs hu
    simp only [Bool.and_eq_true, List.all_eq_true] at hp
    obtain ⟨xs, f, _, _, hl, hxl, hf⟩ := DataW.trod_struct hu hx
    have hfs : ∀ g ∈ fs.toList, ∃ ys, Rds w m ((cs.drop g.offset).take (P.cellsOf g.type)) ys ∧ ShC P n g.type ys := by
     intro g hg
     obtain ⟨i, hi, rfl⟩ := List.getElem_of_mem hg
     have hi' : i < fs.size := by simpa using hi
     have h1 := hf i fs[i] (Array.getElem?_eq_getElem hi')
     rw [List.getElem?_eq_getElem (by omega)] at h1
     exact af8 n _ _ _ _ (by simpa using h1) (hp.2 _ hg)
    obtain ⟨ys, h1, h2⟩ := af5 fs.toList 0 (by rw [hl]; exact hp.1) (Nat.zero_le _) hfs
    rw [List.drop_zero] at h1
    refine ⟨ys, h1, ?_⟩
    unfold ShC; rw [hu]
    exact ⟨by rw [← h1.1, hl], fun g hg => by simpa using (h2 g hg).2⟩
  · cases hp

end
section
variable {P : Program} {W : World}

theorem Rds.get {m : Nat → Nat} {a : List Value} {x : List V} (h : Rds W m a x) : a.length = x.length := h.1

theorem aty {H : Type} {enc : TypeId × Value → H} {spare : Nat → Bool} {held : Bool} {n : Nat} {t : TypeId} {v : Value} {d : DataW H} {p : List MemPlace} (m : Nat → Nat)
 (hv : v.cells = #[v]) (h : DataW.Trod enc P W 0 spare held t v d p) (hp : aa4 P n t = true) : ∃ x, RV W m [] (fun _ => False) true v x ∧ ShC P n t [x] := by
 obtain ⟨fuel, hf⟩ := h
 rw [hv] at hf
 obtain ⟨xs, h1, h2⟩ := af8 (m := m) n fuel t _ _ hf hp
 match xs, h1 with
 | [x], h1 => exact ⟨x, by have := h1.2 0 (by simp); exact this.w9, h2⟩
 | [], h1 => simp [Rds] at h1
 | _ :: _ :: _, h1 => simp [Rds] at h1

theorem law_walk {f : FuncId} {xs : List V} {vs : Array Value} (m : Nat → Nat) (hc : Ctr P f xs [] (.bool true) []) (hgl : GL W (fun _ => False)) (hsz : vs.size = xs.length)
 (hr : ∀ i (hi : i < xs.length), RV W m [] (fun _ => False) true (vs.getD i Go.undef) xs[i]) :
 Calls P f vs W fun e w' => e = .returned (.bool true) ∧ RowKit.Below W.heap.size W w' := by
 refine (hc.2 W vs m (fun _ => False) ⟨fun i j ci cj h => by simp at h, fun id cs h => by simp at h, fun id cs h => by simp at h⟩ (fun b h => h.elim) hgl hsz hr).mono ?_
 rintro e w' ⟨v, m', rfl, hE, _, hv, _⟩
 refine ⟨by cases hv; rfl, hE.os, hE.tape, hE.output, hE.size, fun k hk => hE.block k hk (fun ⟨id, cs, h, _⟩ => by simp at h)⟩

end
end Go.Lv
end
section
namespace Go.Lv

theorem ayq {P : Program} {t : TypeId} {n : Nat} {xs : List V} (hs : P.underlying t = some (.int .u8)) (h : ShC P (n + 1) t xs) : ∃ z, xs = [.int .u8 z] ∧ 0 ≤ z ∧ z ≤ 255 := by
 simp only [ShC, hs] at h
 obtain ⟨z, h1, h2⟩ := h
 refine ⟨z, h1, ?_⟩
 simp [Lit.wf, IntKind.min, IntKind.max, IntKind.signed, IntKind.bits] at h2
 exact h2

theorem aoy {P : Program} {t e : TypeId} {n : Nat} {xs : List V} (hs : P.underlying t = some (.slice e)) {α : Type} {cs : α → List V} {w : Nat} (hw : P.cellsOf e = w) {ok : α → Prop}
 (he : ∀ ys, ShC P n e ys → ∃ a, ys = cs a ∧ ok a) (h : ShC P (n + 1) t xs) : ∃ L : List α, xs = [.sl L.length w (rows cs L)] ∧ aem ok L := by
 simp only [ShC, hs, hw] at h
 obtain ⟨l, ys, rfl, hl, hlen, hel⟩ := h
 suffices ∀ (l : Nat) (ys : List V), ys.length = l * w → (∀ i, i < l → ShC P n e ((ys.drop (i * w)).take w)) → ∃ L : List α, L.length = l ∧ rows cs L = ys ∧ ∀ x ∈ L, ok x by
  obtain ⟨L, h1, h2, h3⟩ := this l ys hlen hel
  exact ⟨L, by rw [h1, h2], by rw [h1]; exact hl, h3⟩
 intro l
 induction l with
 | zero => intro ys h1 _; exact ⟨[], rfl, by simp at h1; simp [rows, h1], fun x hx => by simp at hx⟩
 | succ l ih =>
  intro ys h1 h2
  obtain ⟨a, ha, hoa⟩ := he _ (h2 0 (by omega))
  rw [Nat.zero_mul, List.drop_zero] at ha
  obtain ⟨L, h3, h4, h5⟩ := ih (ys.drop w) (by rw [List.length_drop, h1, Nat.succ_mul]; omega) (fun i hi => by
   have := h2 (i + 1) (by omega)
   rw [List.drop_drop]
   rwa [Nat.succ_mul, Nat.add_comm] at this)
  refine ⟨a :: L, by simp [h3], ?_, ?_⟩
  · rw [fq, h4, ← ha, List.take_append_drop]
  · intro x hx
    rcases List.mem_cons.1 hx with rfl | hx
    · exact hoa
    · exact h5 x hx

end Go.Lv
end
