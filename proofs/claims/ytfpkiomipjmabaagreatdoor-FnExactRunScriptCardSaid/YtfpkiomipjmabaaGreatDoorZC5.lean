/-
  A part of the proof: texts put together by a program of the prover. Conditions: none.
-/
import Derived.Test.YtfpkiomipjmabaaGreatDoorZC4
import Derived.Control
set_option linter.unusedSimpArgs false
set_option linter.unusedVariables false
section
namespace Go.Lv

theorem y0 {t t' : List V} {x : Operand} (h : ∀ u, x = .tmp u → t.getD u .undef = t'.getD u .undef) : ev t x = ev t' x := by
 cases x with
 | tmp u => exact h u rfl
 | _ => rfl

theorem zn {P : Program} {h : Hp} {ρ ρ' : Operand → V} {op : Op} {K : V → Hp → Prop} (hr : ∀ x ∈ op.operands, ρ x = ρ' x) (hq : gop P h ρ op K) : gop P h ρ' op K := by
 cases op with
 | move x => have := hr x (by simp [Op.operands]); simpa [gop, qop, this] using hq
 | assign x => have := hr x (by simp [Op.operands]); simpa [gop, qop, this] using hq
 | pick c x y =>
   have h1 := hr c (by simp [Op.operands]); have h2 := hr x (by simp [Op.operands]); have h3 := hr y (by simp [Op.operands])
   simpa [gop, qop, h1, h2, h3] using hq
 | build t ps =>
   have : (ps.toList.map fun p => (p.1, ρ p.2)) = ps.toList.map fun p => (p.1, ρ' p.2) := List.map_congr_left fun p hp => by
     rw [hr p.2 (by simp [Op.operands]; exact ⟨p.1, by simpa using hp⟩)]
   simpa only [gop, this] using hq
 | buildSlice t n ps =>
   have : (ps.toList.map fun p => (p.1, ρ p.2)) = ps.toList.map fun p => (p.1, ρ' p.2) := List.map_congr_left fun p hp => by
     rw [hr p.2 (by simp [Op.operands]; exact ⟨p.1, by simpa using hp⟩)]
   simpa only [gop, this] using hq
 | alloc t => exact hq
 | box t x => have := hr x (by simp [Op.operands]); simp only [gop, this] at hq ⊢; exact hq
 | makeSlice t l c =>
   have h1 := hr l (by simp [Op.operands]); have h2 := hr c (by simp [Op.operands])
   simp only [gop, h1, h2] at hq ⊢
   exact hq
 | load t x => have := hr x (by simp [Op.operands]); simpa [gop, qop, this] using hq
 | nilCheck x => have := hr x (by simp [Op.operands]); simpa [gop, qop, this] using hq
 | binOp op t x y t' => have h1 := hr x (by simp [Op.operands]); have h2 := hr y (by simp [Op.operands]); simpa [gop, qop, h1, h2] using hq
 | unOp op t x => have := hr x (by simp [Op.operands]); cases op <;> simp only [gop, qop, this] at hq ⊢ <;> exact hq
 | convert s d x => have := hr x (by simp [Op.operands]); simpa [gop, this] using hq
 | makeFunc f x y =>
   have h1 : x.toList.map ρ = x.toList.map ρ' := List.map_congr_left fun p hp => hr p (by simp [Op.operands]; exact .inl (by simpa using hp))
   have h2 : y.toList.map ρ = y.toList.map ρ' := List.map_congr_left fun p hp => hr p (by simp [Op.operands]; exact .inr (by simpa using hp))
   simp only [gop, qop, h1, h2] at hq ⊢
   exact hq
 | slice t x lo hi mx =>
   have h1 := hr x (by simp [Op.operands])
   cases mx with
   | some _ => exact hq
   | none =>
     have h2 : ub ρ lo = ub ρ' lo := by
       cases lo with
       | none => rfl
       | some l => have := hr l (by simp [Op.operands]); simp [ub, this]
     have h3 : ∀ x l (K : V → Prop), ll P ρ t x l hi K = ll P ρ' t x l hi K := by
       intro x l K
       cases hi with
       | none => rfl
       | some u => have := hr u (by simp [Op.operands]); simp [ll, this]
     simp only [gop, qop, h1, h2] at hq ⊢
     split at hq
     · exact hq
     · rw [h3] at hq; exact hq
 | lookup t x y ok => have h1 := hr x (by simp [Op.operands]); have h2 := hr y (by simp [Op.operands]); simpa [gop, qop, h1, h2] using hq
 | fieldAddr t x f => have := hr x (by simp [Op.operands]); simpa [gop, qop, this] using hq
 | field t x f => have := hr x (by simp [Op.operands]); simpa [gop, qop, this] using hq
 | indexAddr t x i => have h1 := hr x (by simp [Op.operands]); have h2 := hr i (by simp [Op.operands]); simpa [gop, qop, h1, h2] using hq
 | index t x i => have h1 := hr x (by simp [Op.operands]); have h2 := hr i (by simp [Op.operands]); simpa [gop, qop, h1, h2] using hq
 | extract x i => have := hr x (by simp [Op.operands]); simpa [gop, qop, this] using hq
 | call c =>
   obtain ⟨cal, args, ts⟩ := c
   cases cal with
   | value f =>
     have h1 := hr f (by simp [Op.operands, Call.operands])
     have h2 : args.toList.map ρ = args.toList.map ρ' := List.map_congr_left fun p hp => hr p (by simp [Op.operands, Call.operands]; exact .inr (by simpa using hp))
     simp only [gop, h1, h2] at hq ⊢
     exact hq
   | invoke r s => exact hq
   | builtin b =>
     have h2 : ∀ p ∈ args.toList, ρ p = ρ' p := fun p hp => hr p (by simp [Op.operands, Call.operands]; simpa using hp)
     obtain ⟨l⟩ := args
     obtain ⟨ts⟩ := ts
     cases b <;> try exact hq
     case len =>
       match l, ts, hq, h2 with
       | [x], [t], hq, h2 => have := h2 x (by simp); simp only [gop, qop, this] at hq ⊢; exact hq
       | [], _, hq, _ => exact hq
       | [_], [], hq, _ => exact hq
       | [_], _ :: _ :: _, hq, _ => exact hq
       | _ :: _ :: _, _, hq, _ => exact hq
     case max =>
       match l, hq, h2 with
       | [x, y], hq, h2 => have e1 := h2 x (by simp); have e2 := h2 y (by simp); simp only [gop, qop, e1, e2] at hq ⊢; exact hq
       | [], hq, _ => exact hq
       | [_], hq, _ => exact hq
       | _ :: _ :: _ :: _, hq, _ => exact hq
     case min =>
       match l, hq, h2 with
       | [x, y], hq, h2 => have e1 := h2 x (by simp); have e2 := h2 y (by simp); simp only [gop, qop, e1, e2] at hq ⊢; exact hq
       | [], hq, _ => exact hq
       | [_], hq, _ => exact hq
       | _ :: _ :: _ :: _, hq, _ => exact hq
 | _ => exact hq

def Det (F : (V → Prop) → Prop) : Prop := ∀ K, F K → ∃ x, K x ∧ F (fun y => y = x)

theorem Det.ret (x : V) : Det (fun K => K x) := fun _ hk => ⟨x, hk, rfl⟩
theorem Det.no : Det (fun _ => False) := fun _ hk => hk.elim
theorem Det.and {A : Prop} {F : (V → Prop) → Prop} (h : Det F) : Det (fun K => A ∧ F K) := fun K ⟨ha, hk⟩ => let ⟨x, h1, h2⟩ := h K hk; ⟨x, h1, ha, h2⟩
theorem Det.ex {A : Prop} {F : A → (V → Prop) → Prop} (h : ∀ a, Det (F a)) : Det (fun K => ∃ a, F a K) := fun K ⟨a, hk⟩ => let ⟨x, h1, h2⟩ := h a K hk; ⟨x, h1, a, h2⟩

theorem mh {x : V} {F : IntKind → Int → (V → Prop) → Prop} (h : ∀ k z, Det (F k z)) : Det (fun K => ib x fun k z => F k z K) := by
 cases x with
 | int k z => exact h k z
 | _ => exact Det.no
theorem adg {x : V} {F : Bool → (V → Prop) → Prop} (h : ∀ b, Det (F b)) : Det (fun K => jv x fun b => F b K) := by
 cases x with
 | bool b => exact h b
 | _ => exact Det.no

theorem aqw (P : Program) (h : Hp) (t : TypeId) (x : V) : Det (n7 P h t x) := by
 unfold n7
 cases gi P t with
 | none => exact Det.no
 | some p =>
   obtain ⟨sz, ag⟩ := p
   cases x with
   | pt cs => exact (Det.ret _).and.and
   | ptr id off =>
     dsimp only
     cases h[id]? with
     | none => exact Det.no
     | some b => cases b with
       | none => exact Det.no
       | some cs => exact (Det.ret _).and.and
   | _ => exact Det.no

theorem aem (P : Program) (s : TypeId) (f : Nat) (x : V) : Det (ea P s f x) := by
 unfold ea
 cases gf P s f with
 | none => exact Det.no
 | some p =>
   obtain ⟨o, sz, ag⟩ := p
   cases x with
   | pt cs => exact (Det.ret _).and
   | ptr id off => exact (Det.ret _).and
   | _ => exact Det.no.and

theorem aoj (P : Program) (s : TypeId) (f : Nat) (x : V) : Det (xu P s f x) := by
 unfold xu
 cases gf P s f with
 | none => exact Det.no
 | some p =>
   obtain ⟨o, sz, ag⟩ := p
   cases x with
   | agg cs => exact (Det.ret _).and.and
   | _ => exact Det.no

theorem aex (P : Program) (t : TypeId) (x : V) (z : Int) : Det (dp P t x z) := by
 unfold dp
 cases x with
 | sl n w cs => dsimp only; cases ij P t with
   | none => exact Det.no
   | some p => exact (Det.ret _).and.and
 | osl id off n w => dsimp only; cases ij P t with
   | none => exact Det.no
   | some p => exact (Det.ret _).and.and
 | ptr id off => dsimp only; cases ah9 P t with
   | none => exact Det.no
   | some p => exact (Det.ret _).and
 | pt cs => dsimp only; cases ah9 P t with
   | none => exact Det.no
   | some p => exact (Det.ret _).and
 | _ => exact Det.no

theorem anh (P : Program) (t : TypeId) (x : V) (z : Int) : Det (s6 P t x z) := by
 unfold s6
 cases x with
 | str s => exact (Det.ex fun _ => Det.ret _).and
 | agg cs => dsimp only; cases ah9 P t with
   | none => exact Det.no
   | some p => exact (Det.ret _).and.and.and
 | _ => exact Det.no

theorem anr (P : Program) (ρ : Operand → V) (t : TypeId) (x : V) (l : Int) (hi : Option Operand) : Det (ll P ρ t x l hi) := by
 unfold ll
 cases x with
 | sl n w cs => dsimp only; cases ij P t with
   | none => exact Det.no
   | some p => cases hi with
     | none => exact (Det.ret _).and.and
     | some u => dsimp only; cases ρ u with
       | int k z => exact (Det.ret _).and.and
       | _ => exact Det.no
 | osl id off n w => dsimp only; cases ij P t with
   | none => exact Det.no
   | some p => cases hi with
     | none => exact (Det.ret _).and.and
     | some u => dsimp only; cases ρ u with
       | int k z => exact (Det.ret _).and.and
       | _ => exact Det.no
 | str s => dsimp only; cases hi with
   | none => exact (Det.ret _).and.and
   | some u => dsimp only; cases ρ u with
     | int k z => exact (Det.ret _).and.and
     | _ => exact Det.no.and
 | _ => exact Det.no

theorem amf (P : Program) (op : BinOp) (t : TypeId) (x y : V) : Det (bin P op t x y) := by
 unfold bin
 cases x with
 | int k a => cases y with
   | int k' b => cases op <;> first | exact (Det.ret _).and | exact (Det.ret _).and.and | exact Det.no.and
   | _ => exact Det.no
 | str a => cases y with
   | str b => cases op <;> first | exact Det.ret _ | exact (Det.ret _).and | exact Det.no
   | _ => exact Det.no
 | bool a => cases y with
   | bool b => cases op <;> first | exact (Det.ret _).and | exact Det.no.and
   | _ => exact Det.no
 | agg a => cases y with
   | agg b =>
     dsimp only
     cases ak3 P t with
     | none => exact Det.no
     | some ds =>
       dsimp only
       cases eqL ds a b with
       | none => exact Det.no
       | some r => cases op <;> first | exact Det.ret _ | exact Det.no
   | _ => exact Det.no
 | _ => cases y <;> exact Det.no

theorem ass (P : Program) (t : TypeId) (x : V) : Det (abm P t x) := by
 unfold abm
 cases x with
 | sl n w cs => exact (Det.ret _).and
 | osl id off n w => exact (Det.ret _).and
 | nilsl => exact (Det.ret _).and
 | str s => exact (Det.ret _).and
 | _ => exact Det.no

theorem aqh (P : Program) (s d : TypeId) (x : V) : Det (aa2 P s d x) := by
 unfold aa2
 cases x with
 | int k n => dsimp only; cases uo P d with
   | none => exact (Det.ret _).and.and
   | some k => exact (Det.ret _).and
 | str b => exact (Det.ret _).and.and
 | _ => exact Det.no.and

theorem afw (P : Program) (h : Hp) (s d : TypeId) (x : V) : Det (kl P h s d x) := by
 cases x with
 | osl id off n wd =>
   unfold kl
   dsimp only
   refine Det.and ?_
   cases h[id]? with
   | none => exact Det.no
   | some b => cases b with
     | none => exact Det.no
     | some cs =>
       dsimp only
       cases nu ((cs.drop off).take n) with
       | none => exact Det.no
       | some xs => exact Det.ret _
 | _ => unfold kl; exact aqh P s d _

theorem ar3 (x : V) : Det (wm x) := by
 unfold wm
 cases x with
 | ptr id off => exact Det.ret _
 | pt cs => exact Det.ret _
 | fn f a c => cases f with
   | func g => exact Det.ret _
   | _ => exact Det.no
 | _ => exact Det.no

theorem alg (P : Program) (h : Hp) (t : TypeId) (x y : V) (ok : Bool) : Det (j5 P h t x y ok) := by
 intro K hq
 unfold j5 at hq ⊢
 split at hq
 · split at hq
   · split at hq
     · obtain ⟨h0, hq⟩ := hq
       split at hq
       · exact ⟨_, hq, h0, rfl⟩
       · exact ⟨_, hq, h0, rfl⟩
       · exact hq.elim
     · exact hq.elim
   · exact hq.elim
 · exact hq.elim

theorem an6 (x : V) (i : Nat) : Det (nr x i) := by
 unfold nr
 cases x with
 | tup vs => dsimp only; cases vs[i]? with
   | none => exact Det.no
   | some v => exact Det.ret _
 | _ => exact Det.no

theorem anp (P : Program) (t : TypeId) (parts : List (Nat × V)) : Det (pg P t parts) := by
 unfold pg
 cases zeroOf P t with
 | none => exact Det.no
 | some zs => cases ac4 P t with
   | none => exact Det.no
   | some pl => dsimp only; cases vp pl parts zs with
     | none => exact Det.no
     | some cs => exact Det.ret _

def j4 (F : (V → Hp → Prop) → Prop) : Prop := ∀ K, F K → ∃ x n, K x n ∧ F (fun y m => y = x ∧ m = n)

theorem j4.ret (x : V) (n : Hp) : j4 (fun K => K x n) := fun _ hk => ⟨x, n, hk, rfl, rfl⟩
theorem j4.no : j4 (fun _ => False) := fun _ hk => hk.elim
theorem j4.and {A : Prop} {F : (V → Hp → Prop) → Prop} (h : j4 F) : j4 (fun K => A ∧ F K) := fun K ⟨ha, hk⟩ => let ⟨x, n, h1, h2⟩ := h K hk; ⟨x, n, h1, ha, h2⟩
theorem j4.of {F : (V → Prop) → Prop} (h : Det F) : j4 (fun K => F fun v => K v []) := fun K hk => by
 obtain ⟨x, h1, h2⟩ := h _ hk
 refine ⟨x, [], h1, ?_⟩
 have e : (fun y => y = x) = fun y => y = x ∧ ([] : Hp) = [] := by funext y; simp
 show F fun y => y = x ∧ ([] : Hp) = []
 rw [← e]
 exact h2
theorem aca {x : V} {F : IntKind → Int → (V → Hp → Prop) → Prop} (h : ∀ k z, j4 (F k z)) : j4 (fun K => ib x fun k z => F k z K) := by
 cases x with
 | int k z => exact h k z
 | _ => exact j4.no

theorem aqi (P : Program) (h : Hp) (fv : V) (args : List V) (g : V → Hp → V) (g' : Hp → Hp) : j4 (fun K => u0 P h fv args fun r hout => K (g r hout) (g' hout)) := by
 intro K hq
 cases fv with
 | fn f a c => cases f with
   | func g' =>
     obtain ⟨as', r, hout, h1, h2, h3, h4⟩ := hq
     exact ⟨_, _, h4, as', r, hout, h1, h2, h3, rfl, rfl⟩
   | _ => exact False.elim hq
 | _ => exact False.elim hq

theorem ar1 (P : Program) (h : Hp) (ρ : Operand → V) (op : Op) : Det (qop P h ρ op) := by
 unfold qop
 split
 · exact Det.ret _
 · exact Det.ret _
 · exact adg fun b => Det.ret _
 · exact aqw _ _ _ _
 · exact aem _ _ _ _
 · exact aoj _ _ _ _
 · exact mh fun _ z => aex _ _ _ _
 · exact mh fun _ z => anh _ _ _ _
 · rename_i t x lo hi
   cases ub ρ lo with
   | none => exact Det.no
   | some l => exact anr _ _ _ _ _ _
 · exact amf _ _ _ _ _
 · exact adg fun b => Det.ret _
 · exact mh fun _ z => Det.ret _
 · exact afw _ _ _ _ _
 · exact an6 _ _
 · exact ar3 _
 · exact alg _ _ _ _ _ _
 · exact Det.ret _
 · exact ass _ _ _
 · exact mh fun _ z => mh fun _ z => Det.ret _
 · exact mh fun _ z => mh fun _ z => Det.ret _
 · exact Det.no

theorem an0 (P : Program) (h : Hp) (sT d : TypeId) (x : V) : j4 (aph P h sT d x) := by
 have hq : ∀ y, j4 (fun K : V → Hp → Prop => kl P h sT d y fun v => K v []) := fun y => j4.of (afw P h sT d y)
 cases x with
 | str b =>
   show j4 fun K => ajo (si P d) _ _
   cases si P d with
   | true => exact (j4.ret _ _).and
   | false => exact hq (.str b)
 | _ => (unfold aph; exact hq _)

theorem ag9 (P : Program) (h : Hp) (ρ : Operand → V) (op : Op) : j4 (gop P h ρ op) := by
 unfold gop
 split
 · rename_i t
   cases zeroOf P t with
   | none => exact j4.no
   | some zs => exact j4.ret _ _
 · rename_i t x
   cases cellsOf (ρ x) with
   | none => exact j4.no
   | some cs => exact j4.ret _ _
 · exact j4.of (anp _ _ _)
 · rename_i t n parts
   cases ij P t with
   | none => exact j4.no
   | some p =>
     dsimp only
     cases zeroOf P p.1 with
     | none => exact j4.no
     | some zs =>
       dsimp only
       cases z7 p.2.1 0 (parts.toList.map fun p => (p.1, ρ p.2)) with
       | none => exact j4.no
       | some cs => exact (j4.ret _ _).and.and.and
 · rename_i t l c
   refine aca fun _ n => aca fun _ n' => j4.and ?_
   cases ij P t with
   | none => exact j4.no
   | some p =>
     dsimp only
     cases zeroOf P p.1 with
     | none => exact j4.no
     | some zs => exact (j4.ret _ _).and.and.and
 · exact (aqi _ _ _ _ _ _).and
 · exact an0 _ _ _ _ _
 · exact j4.of (ar1 _ _ _ _)

end Go.Lv
end
section
namespace Go.Lv

def clr (u v : Tmp) : List Oper → Bool
 | [] => true
 | o :: D => (match o.dst with | some x => x != u && x != v | none => true) && clr u v D

def acb (o : Oper) : Bool :=
 match o.guard with
 | none => match o.op with
   | .fieldAddr _ (.tmp _) _ => true
   | .indexAddr _ (.tmp _) (.tmp _) => true
   | .move (.tmp _) => true
   | .nilCheck (.tmp _) => true
   | _ => false
 | some _ => false

def ahw (D : List Oper) (o : Oper) : Bool :=
 match o.dst, o.op with
 | some d, .fieldAddr _ (.tmp a) _ => clr a d D
 | some d, .indexAddr _ (.tmp a) (.tmp b) => clr a d D && clr b d D
 | some d, .move (.tmp a) => clr a d D
 | some d, .nilCheck (.tmp a) => clr a d D
 | _, _ => false

def edL (b : Nat) : List Edge → Bool
 | [] => true
 | e :: l => if e.on < b then edL b l else false
def edB (b : Nat) (after : Array Edge) : Bool := edL b after.toList

def quietAt (b : Nat) (D : List Oper) (o : Oper) : Bool :=
 match D with
 | [] => ef o.op
 | _ :: _ => acb o && (ahw D o && edB b o.after)

def yc (b : Nat) (D : List Oper) : Nat :=
 match D with
 | [] => b + 1
 | _ :: _ => b

def lv (P : Program) (ops : Array Oper) : List Oper → Nat → List Oper → St → (St → Prop) → Prop
 | [], _, D, s, K => fx P ops D s K
 | o :: rest, b, D, s, K => if quietAt b D o = true then gdA ops s.t o.guard (gop P s.h (ev s.t) o.op fun v n => lv P ops rest (yc b D) D (({ s with h := s.h ++ n } : St).put o.dst v) K) (lv P ops rest (yc b D) D (s.put o.dst .skip) K)
   else lv P ops rest b (D ++ [o]) s K

def adh : List Oper → Nat → List Oper → List Bool
 | [], _, _ => []
 | o :: l, b, D => if quietAt b D o then true :: adh l (yc b D) D else false :: adh l b (D ++ [o])

def inB (b : Array Nat) (i j : Nat) : Bool := (b.getD i 0).testBit j

def kn (ops : Array Oper) (j i : Nat) : Bool :=
 match ops[j]?, ops[i]? with
 | some x, some o => match x.dst with
   | some u => (o.looksAt ops).contains u || o.dst == some u
   | none => false
 | _, _ => false

def afx : Op → Bool
 | .fieldAddr _ (.tmp _) _ => true
 | .indexAddr _ (.tmp _) (.tmp _) => true
 | .move (.tmp _) => true
 | .pick (.tmp _) _ _ => true
 | .binOp _ _ _ _ _ => true
 | .extract (.tmp _) _ => true
 | .unOp .not _ _ => true
 | .nilCheck (.tmp _) => true
 | _ => false
def mg (o : Oper) : Bool := afx o.op

def tkB (ops : Array Oper) (b : Array Nat) (k : Nat) : Bool :=
 match ops[k]? with
 | none => false
 | some o => mg o && (List.range ops.size).all fun j => match ops[j]? with
   | none => true
   | some o' => j == k || inB b k j || (o'.after.toList.any fun e => Region.binds .any e && e.on == k) || o.apart ops o'

def bp (ops : Array Oper) : Bool :=
 let b := Region.before ops
 let zl := adh ops.toList 0 []
 (List.range ops.size).all fun i => match ops[i]? with
   | none => false
   | some o =>
     ((List.range ops.size).all fun j => !(inB b i j) || o.after.toList.any fun e => Region.binds .any e && (e.on == j || inB b e.on j)) &&
     (o.after.toList.all fun e => !(Region.binds .any e) || decide (e.on < i)) &&
     (match o.op with | .select _ _ => false | _ => true) &&
     (match zl.getD i false with
       | true => (o.after.toList.all fun e => !(Region.binds .any e) || zl.getD e.on false) &&
         (List.range ops.size).all fun j => !(zl.getD j false) || j == i || !(kn ops j i) || (if j < i then inB b i j else inB b j i)
       | false => (List.range ops.size).all fun j => match zl.getD j false with
         | true => inB b i j || tkB ops b j
         | false => !(decide (j < i)) || inB b i j)

structure l4 (ops : Array Oper) (z : Nat → Bool) (B : Nat → Nat → Prop) (tk : Nat → Bool) (la : Nat → Bool := fun _ => false) : Prop where
 clo : ∀ (i : Nat) (o : Oper) (j : Nat), ops[i]? = some o → B i j → ∃ e ∈ o.after, Region.binds .any e = true ∧ (e.on = j ∨ B e.on j)
 lt : ∀ (i : Nat) (o : Oper), ops[i]? = some o → ∀ e ∈ o.after, Region.binds .any e = true → e.on < i
 cl : ∀ i j, i < ops.size → j < ops.size → z i = true → z j = true → j ≠ i → kn ops j i = true → (j < i → B i j) ∧ (i < j → B j i)
 noq : ∀ (i : Nat) (o : Oper), ops[i]? = some o → z i = true → ∀ e ∈ o.after, Region.binds .any e = true → z e.on = true
 mix : ∀ i j, i < ops.size → j < ops.size → z i = false → z j = true → B i j ∨ tk j = true ∨ la i = true
 bar : ∀ i j, i < ops.size → z i = false → j < i → z j = false → B i j
 take : ∀ (k : Nat) (o : Oper), ops[k]? = some o → tk k = true → mg o = true ∧ ∀ (j : Nat) (o' : Oper), ops[j]? = some o' → j ≠ k → ¬ B k j → (∀ e ∈ o'.after, Region.binds .any e = true → e.on ≠ k) → o.apart ops o' = true
 sel : ∀ (i : Nat) (o : Oper) (cs : Array SelectCase) (b : Bool), ops[i]? = some o → o.op ≠ .select cs b

def zOf (ops : Array Oper) (i : Nat) : Bool := (adh ops.toList 0 []).getD i false

theorem aif {ops : Array Oper} (hd : bp ops = true) : l4 ops (zOf ops) (fun i j => j < ops.size ∧ inB (Region.before ops) i j = true) (tkB ops (Region.before ops)) := by
 have h : ∀ i, i < ops.size → ∃ o, ops[i]? = some o ∧
     ((List.range ops.size).all fun j => !(inB (Region.before ops) i j) || o.after.toList.any fun e => Region.binds .any e && (e.on == j || inB (Region.before ops) e.on j)) = true ∧
     (o.after.toList.all fun e => !(Region.binds .any e) || decide (e.on < i)) = true ∧ (match o.op with | .select _ _ => false | _ => true) = true ∧
     (match zOf ops i with
       | true => (o.after.toList.all fun e => !(Region.binds .any e) || zOf ops e.on) &&
         (List.range ops.size).all fun j => !(zOf ops j) || j == i || !(kn ops j i) || (if j < i then inB (Region.before ops) i j else inB (Region.before ops) j i)
       | false => (List.range ops.size).all fun j => match zOf ops j with
         | true => inB (Region.before ops) i j || tkB ops (Region.before ops) j
         | false => !(decide (j < i)) || inB (Region.before ops) i j) = true := by
   intro i hi
   have := List.all_eq_true.1 hd i (List.mem_range.2 hi)
   split at this
   · cases this
   · rename_i o ho
     simp only [Bool.and_eq_true] at this
     exact ⟨o, ho, this.1.1.1, this.1.1.2, this.1.2, this.2⟩
 have lt_of : ∀ {i : Nat} {o : Oper}, ops[i]? = some o → i < ops.size := fun h => (Array.getElem?_eq_some_iff.1 h).1
 refine ⟨fun i o j ho hB => ?_, fun i o ho e he hb => ?_, fun i j hi hj zi zj hne hc => ?_, fun i o ho zi e he hb => ?_, fun i j hi hj zi zj => ?_, fun i j hi zi hj zj => ?_, fun k o ho ht => ?_, fun i o cs b ho => ?_⟩
 · obtain ⟨o', ho', h1, _⟩ := h i (lt_of ho)
   rw [ho] at ho'; simp at ho'; subst ho'
   have := List.all_eq_true.1 h1 j (List.mem_range.2 hB.1)
   simp only [hB.2, Bool.not_true, Bool.false_or, List.any_eq_true, Bool.and_eq_true, Bool.or_eq_true, beq_iff_eq] at this
   obtain ⟨e, he, hb, hc⟩ := this
   exact ⟨e, by simpa using he, hb, hc.imp (fun h => h) (fun h => ⟨hB.1, h⟩)⟩
 · obtain ⟨o', ho', _, h2, _⟩ := h i (lt_of ho)
   rw [ho] at ho'; simp at ho'; subst ho'
   have := List.all_eq_true.1 h2 e (by simpa using he)
   simpa [hb] using this
 · obtain ⟨o', ho', _, _, _, h3⟩ := h i hi
   rw [zi] at h3
   simp only [Bool.and_eq_true] at h3
   have := List.all_eq_true.1 h3.2 j (List.mem_range.2 hj)
   have hne' : (j == i) = false := by simpa using hne
   rw [hne', hc, zj] at this
   simp only [Bool.not_true, Bool.false_or] at this
   refine ⟨fun hlt => ⟨by omega, by rw [if_pos hlt] at this; exact this⟩, fun hlt => ⟨by omega, by rw [if_neg (by omega)] at this; exact this⟩⟩
 · obtain ⟨o', ho', _, _, _, h3⟩ := h i (lt_of ho)
   rw [ho] at ho'; simp at ho'; subst ho'
   rw [zi] at h3
   simp only [Bool.and_eq_true] at h3
   have := List.all_eq_true.1 h3.1 e (by simpa using he)
   simpa [hb] using this
 · obtain ⟨o', ho', _, _, _, h3⟩ := h i hi
   rw [zi] at h3
   have := List.all_eq_true.1 h3 j (List.mem_range.2 hj)
   rw [zj] at this
   simp only [Bool.or_eq_true] at this
   exact this.imp (fun h => ⟨hj, h⟩) (fun h => .inl h)
 · obtain ⟨o', ho', _, _, _, h3⟩ := h i hi
   rw [zi] at h3
   have := List.all_eq_true.1 h3 j (List.mem_range.2 (by omega))
   rw [zj] at this
   simp only [decide_eq_true hj, Bool.not_true, Bool.false_or] at this
   exact ⟨by omega, this⟩
 · unfold tkB at ht
   rw [ho] at ht
   simp only [Bool.and_eq_true] at ht
   refine ⟨ht.1, fun j o' ho' hne hB hall => ?_⟩
   have := List.all_eq_true.1 ht.2 j (List.mem_range.2 (lt_of ho'))
   rw [ho'] at this
   simp only [Bool.or_eq_true, beq_iff_eq, List.any_eq_true, Bool.and_eq_true] at this
   rcases this with ((h1 | h1) | ⟨e, he, hb, h1⟩) | h1
   · exact absurd h1 hne
   · exact absurd ⟨lt_of ho', h1⟩ hB
   · exact absurd h1 (hall e (by simpa using he) hb)
   · exact h1
 · obtain ⟨o', ho', _, _, h5, _⟩ := h i (lt_of ho)
   rw [ho] at ho'; simp at ho'; subst ho'
   intro e
   rw [e] at h5
   cases h5

def zb (t : List V) (d : Option Tmp) (v : V) : List V :=
 match d with
 | some d => t.set d v
 | none => t

theorem put_eq (s : St) (d : Option Tmp) (v : V) : s.put d v = { s with t := zb s.t d v } := by cases d <;> rfl

section
variable (ops : Array Oper) (t0 : List V) (xs : Nat → V)

def dw (i : Nat) : Option Tmp := (ops[i]?).bind (·.dst)

def tS (S : Nat → Bool) : Nat → List V
 | 0 => t0
 | q + 1 => if S q then zb (tS S q) (dw ops q) (xs q) else tS S q

theorem jz (t : List V) (d : Option Tmp) (v : V) : (zb t d v).length = t.length := by cases d <;> simp [zb]

theorem bw (S : Nat → Bool) : ∀ q, (tS ops t0 xs S q).length = t0.length
 | 0 => rfl
 | q + 1 => by
   simp only [tS]
   split
   · rw [jz]; exact bw S q
   · exact bw S q

theorem gm (t : List V) (d : Option Tmp) (v : V) (u : Nat) (hu : u < t.length) : (zb t d v).getD u .undef = if d = some u then v else t.getD u .undef := by
 cases d with
 | none => simp [zb]
 | some d =>
   simp only [zb, List.getD_eq_getElem?_getD, List.getElem?_set, Option.some.injEq]
   by_cases e : d = u
   · subst e; simp [hu]
   · simp [e]

theorem tw (S S' : Nat → Bool) (u : Nat) (hu : u < t0.length) : ∀ q, (∀ i, i < q → dw ops i = some u → S i = S' i) → (tS ops t0 xs S q).getD u .undef = (tS ops t0 xs S' q).getD u .undef
 | 0, _ => rfl
 | q + 1, h => by
   have ih := tw S S' u hu q (fun i hi hd => h i (by omega) hd)
   simp only [tS]
   by_cases hd : dw ops q = some u
   · rw [h q (by omega) hd]
     split
     · rw [gm _ _ _ _ (by rw [bw]; exact hu), gm _ _ _ _ (by rw [bw]; exact hu), if_pos hd, if_pos hd]
     · exact ih
   · have e : ∀ T, (if S q then zb (tS ops t0 xs T q) (dw ops q) (xs q) else tS ops t0 xs T q).getD u .undef = (tS ops t0 xs T q).getD u .undef := by
       intro T
       split
       · rw [gm _ _ _ _ (by rw [bw]; exact hu), if_neg hd]
       · rfl
     have e' : ∀ T, (if S' q then zb (tS ops t0 xs T q) (dw ops q) (xs q) else tS ops t0 xs T q).getD u .undef = (tS ops t0 xs T q).getD u .undef := by
       intro T
       split
       · rw [gm _ _ _ _ (by rw [bw]; exact hu), if_neg hd]
       · rfl
     rw [e, e', ih]

theorem s5 (S : Nat → Bool) (u : Nat) (hu : u < t0.length) (k : Nat) : ∀ q, k ≤ q → (∀ i, k ≤ i → i < q → dw ops i = some u → S i = false) → (tS ops t0 xs S q).getD u .undef = (tS ops t0 xs S k).getD u .undef
 | 0, h, _ => by have : k = 0 := by omega
                 subst this; rfl
 | q + 1, h, hs => by
   by_cases e : k = q + 1
   · subst e; rfl
   · have ih := s5 S u hu k q (by omega) (fun i h1 h2 hd => hs i h1 (by omega) hd)
     simp only [tS]
     by_cases hd : dw ops q = some u
     · rw [hs q (by omega) (by omega) hd]
       exact ih
     · split
       · rw [gm _ _ _ _ (by rw [bw]; exact hu), if_neg hd]
         exact ih
       · exact ih

theorem p8 (S z : Nat → Bool) (u i p : Nat) (hip : i ≤ p) (h : ∀ j, j < p → dw ops j = some u → (S j = true ↔ j < i ∧ z j = true)) :
   (tS ops t0 xs S p).getD u .undef = (tS ops t0 xs z i).getD u .undef := by
 by_cases hu : u < t0.length
 · rw [s5 ops t0 xs S u hu i p hip (fun j h1 h2 hd => by
     have := h j h2 hd
     cases hs : S j
     · rfl
     · have := (this.1 hs).1; omega)]
   exact tw ops t0 xs S z u hu i (fun j hj hd => by
     have := h j (by omega) hd
     cases hz : z j
     · cases hs : S j
       · rfl
       · rw [(this.1 hs).2] at hz; cases hz
     · exact this.2 ⟨hj, hz⟩)
 · have e : ∀ (l : List V), l.length = t0.length → l.getD u .undef = .undef := fun l hl => by
     rw [List.getD_eq_getElem?_getD, List.getElem?_eq_none (by omega)]; rfl
   rw [e _ (bw ..), e _ (bw ..)]

end

theorem mz {l l' : List V} (hl : l.length = l'.length) (h : ∀ u, u < l.length → l.getD u .undef = l'.getD u .undef) : l = l' := by
 apply List.ext_getElem hl
 intro u h1 h2
 have := h u h1
 simpa [List.getD_eq_getElem?_getD, h1, h2] using this

def hS (h0 : Hp) (ns : Nat → Hp) (z S : Nat → Bool) : Nat → Hp
 | 0 => h0
 | q + 1 => if z q then hS h0 ns z S q ++ (if S q then ns q else List.replicate (ns q).length none) else hS h0 ns z S q

section
variable (h0 : Hp) (ns : Nat → Hp) (z : Nat → Bool)

theorem vm (S S' : Nat → Bool) : ∀ q, (hS h0 ns z S q).length = (hS h0 ns z S' q).length
 | 0 => rfl
 | q + 1 => by
   have := vm S S' q
   simp only [hS]
   split
   · simp only [List.length_append, this]
     split <;> split <;> simp
   · exact this

theorem ju {S S' : Nat → Bool} : ∀ q, (∀ i, i < q → z i = true → S i = S' i) → hS h0 ns z S q = hS h0 ns z S' q
 | 0, _ => rfl
 | q + 1, h => by
   simp only [hS]
   rw [ju q (fun i hi => h i (by omega))]
   split
   · rename_i hz; rw [h q (by omega) hz]
   · rfl

theorem ajy (S : Nat → Bool) : ∀ q, h0.length ≤ (hS h0 ns z S q).length
 | 0 => Nat.le_refl _
 | q + 1 => by
   have := ajy S q
   simp only [hS]
   split
   · simp only [List.length_append]; omega
   · exact this

theorem ze (S : Nat → Bool) (i : Nat) : ∀ q, i ≤ q → ∃ B : Hp, ∀ S' : Nat → Bool, (∀ j, i ≤ j → S' j = S j) → hS h0 ns z S' q = hS h0 ns z S' i ++ B
 | 0, h => ⟨[], fun S' _ => by have : i = 0 := by omega
                               subst this; simp⟩
 | q + 1, h => by
   by_cases e : i = q + 1
   · subst e; exact ⟨[], fun S' _ => by simp⟩
   · obtain ⟨B, hB⟩ := ze S i q (by omega)
     by_cases hz : z q = true
     · refine ⟨B ++ (if S q then ns q else List.replicate (ns q).length none), fun S' hS' => ?_⟩
       simp only [hS, if_pos hz]
       rw [hB S' hS', hS' q (by omega), List.append_assoc]
     · refine ⟨B, fun S' hS' => ?_⟩
       simp only [hS, if_neg hz]
       exact hB S' hS'

theorem aq2 (S : Nat → Bool) : ∀ (q id : Nat), (hS h0 ns z S q)[id]? = (hS h0 ns z z q)[id]? ∨ (hS h0 ns z S q)[id]? = some none
 | 0, id => .inl rfl
 | q + 1, id => by
   have ih := aq2 S q id
   have hl := vm h0 ns z S z q
   by_cases hz : z q = true
   · simp only [hS, hz, if_true]
     rcases Nat.lt_or_ge id (hS h0 ns z S q).length with h | h
     · rw [List.getElem?_append_left h, List.getElem?_append_left (by omega)]
       exact ih
     · rw [List.getElem?_append_right h, List.getElem?_append_right (by omega), hl]
       by_cases hs : S q = true
       · rw [if_pos hs]; exact .inl rfl
       · rw [if_neg hs]
         rcases Nat.lt_or_ge (id - (hS h0 ns z z q).length) (ns q).length with h2 | h2
         · refine .inr ?_
           rw [List.getElem?_replicate, if_pos h2]
         · refine .inl ?_
           rw [List.getElem?_replicate, if_neg (by omega), List.getElem?_eq_none h2]
   · simp only [hS, hz]
     exact ih

theorem yu (S : Nat → Bool) {k q : Nat} (hk : k ≤ q) (id : Nat) (cs cs' : List V) (h1 : (hS h0 ns z S q)[id]? = some (some cs)) (h2 : (hS h0 ns z z k)[id]? = some (some cs')) : cs = cs' := by
 obtain ⟨B, hB⟩ := ze h0 ns z z k q hk
 have h3 : (hS h0 ns z z q)[id]? = some (some cs') := by
   rw [hB z (fun _ _ => rfl), List.getElem?_append_left (List.getElem?_eq_some_iff.1 h2).1]
   exact h2
 rcases aq2 h0 ns z S q id with h | h
 · rw [h1, h3] at h; simpa using h
 · rw [h1] at h; cases h

theorem adk : ∀ (bs A B : Hp), dd (A ++ List.replicate bs.length none ++ B) A.length bs = A ++ bs ++ B
 | [], A, B => by simp [dd]
 | b :: bs, A, B => by
   show dd ((A ++ List.replicate (bs.length + 1) none ++ B).set A.length b) (A.length + 1) bs = _
   have e : (A ++ List.replicate (bs.length + 1) none ++ B).set A.length b = (A ++ [b]) ++ List.replicate bs.length none ++ B := by
     rw [List.append_assoc, List.set_append_right _ _ (Nat.le_refl _), Nat.sub_self, List.replicate_succ]
     simp
   rw [e]
   have := adk bs (A ++ [b]) B
   simp only [List.length_append, List.length_singleton] at this
   rw [this]
   simp

theorem y4 (S : Nat → Bool) {i q : Nat} (hi : i < q) (hz : z i = true) (hs : S i = false) (j : Nat) (hj : j < (ns i).length) : (hS h0 ns z S q)[(hS h0 ns z z i).length + j]? = some none := by
 obtain ⟨B, hB⟩ := ze h0 ns z S (i + 1) q (by omega)
 rw [hB S (fun _ _ => rfl)]
 simp only [hS, hz, if_true, hs]
 rw [vm h0 ns z z S i, List.append_assoc, List.getElem?_append_right (by omega), Nat.add_sub_cancel_left]
 simp only [Bool.false_eq_true, if_false]
 rw [List.getElem?_append_left (by simpa using hj), List.getElem?_replicate, if_pos hj]

theorem adt (S S' : Nat → Bool) {i q : Nat} (hi : i < q) (hz : z i = true) (hs : S i = false) (hs' : S' i = true) (he : ∀ j, j ≠ i → S' j = S j) : dd (hS h0 ns z S q) (hS h0 ns z z i).length (ns i) = hS h0 ns z S' q := by
 obtain ⟨B, hB⟩ := ze h0 ns z S (i + 1) q (by omega)
 rw [hB S (fun _ _ => rfl), hB S' (fun j hj => he j (by omega))]
 simp only [hS, hz, if_true, hs, hs', Bool.false_eq_true, if_false]
 rw [ju h0 ns z (S := S') (S' := S) i (fun j hj _ => he j (by omega)), vm h0 ns z z S i]
 exact adk _ _ _

theorem x7 : ∀ q, ∃ k, hS h0 ns z (fun _ => false) q = h0 ++ List.replicate k none
 | 0 => ⟨0, by simp [hS]⟩
 | q + 1 => by
   obtain ⟨k, hk⟩ := x7 q
   simp only [hS, hk]
   split
   · exact ⟨k + (ns q).length, by simp only [Bool.false_eq_true, if_false]; rw [List.append_assoc, List.replicate_append_replicate]⟩
   · exact ⟨k, rfl⟩

end

def Go2 (P : Program) (ops : Array Oper) (h : Hp) (o : Oper) (t : List V) (x : V) (n : Hp) : Prop :=
 gdA ops t o.guard (gop P h (ev t) o.op fun y m => y = x ∧ m = n) (x = .skip ∧ n = [])

theorem agf {ops : Array Oper} {t : List V} {g : Option (Nat × Bool)} {F : (V → Hp → Prop) → Prop} (hF : j4 F) {K : V → Hp → Prop} (hq : gdA ops t g (F K) (K .skip [])) :
   ∃ x n, K x n ∧ gdA ops t g (F fun y m => y = x ∧ m = n) (x = .skip ∧ n = []) := by
 unfold gdA at *
 cases g with
 | none => exact hF K hq
 | some jw =>
   obtain ⟨j, want⟩ := jw
   dsimp only at *
   unfold tl at *
   split at hq
   · rename_i b hb
     by_cases e : b = want
     · obtain ⟨x, n, h1, h2⟩ := hF K (hq.1 e)
       exact ⟨x, n, h1, fun _ => h2, fun e2 => by subst e; cases b <;> simp at e2⟩
     · have e' : b = !want := by cases b <;> cases want <;> simp_all
       exact ⟨.skip, [], hq.2 e', fun e2 => absurd e2 e, fun _ => ⟨rfl, rfl⟩⟩
   · exact ⟨.skip, [], hq, rfl, rfl⟩
   · exact hq.elim

def ez (ops : Array Oper) (z : Nat → Bool) (q : Nat) : List Oper := ((List.range ops.size).drop q).filterMap fun i => if z i then none else ops[i]?

def jq (ops : Array Oper) (z : Nat → Bool) (q : Nat) : List Oper := (List.range q).filterMap fun i => if z i then none else ops[i]?

section
variable {P : Program} {ops : Array Oper}

theorem af1 {s : St} {K : St → Prop} (hq : lv P ops ops.toList 0 [] s K) : ∀ k, k ≤ ops.size → ∃ (xs : Nat → V) (ns : Nat → Hp) (b : Nat),
   (∀ i o, i < k → zOf ops i = true → ops[i]? = some o → Go2 P ops (hS s.h ns (zOf ops) (zOf ops) i) o (tS ops s.t xs (zOf ops) i) (xs i) (ns i)) ∧
   adh (ops.toList.drop k) b (jq ops (zOf ops) k) = (adh ops.toList 0 []).drop k ∧
   lv P ops (ops.toList.drop k) b (jq ops (zOf ops) k) { s with t := tS ops s.t xs (zOf ops) k, h := hS s.h ns (zOf ops) (zOf ops) k } K
 | 0, _ => ⟨fun _ => .undef, fun _ => [], 0, fun i o hi => absurd hi (by omega), by simp [jq], by simpa [tS, hS, jq] using hq⟩
 | k + 1, hk => by
   obtain ⟨xs, ns, b, h1, hr, h2⟩ := af1 hq k (by omega)
   have hlt : k < ops.size := by omega
   have hget : ops[k]? = some ops[k] := Array.getElem?_eq_getElem hlt
   have hdrop : ops.toList.drop k = ops[k] :: ops.toList.drop (k + 1) := by
     rw [List.drop_eq_getElem_cons (by simpa using hlt)]
     simp
   rw [hdrop] at h2 hr
   have hrest : jq ops (zOf ops) (k + 1) = if zOf ops k then jq ops (zOf ops) k else jq ops (zOf ops) k ++ [ops[k]] := by
     simp only [jq, List.range_succ, List.filterMap_append, List.filterMap_cons, List.filterMap_nil, hget]
     cases zOf ops k <;> simp
   have hr1 : ∀ o l b D, adh (o :: l) b D = if quietAt b D o then true :: adh l (yc b D) D else false :: adh l b (D ++ [o]) := fun _ _ _ _ => rfl
   rw [hr1] at hr
   unfold lv at h2
   by_cases hz : quietAt b (jq ops (zOf ops) k) ops[k] = true
   · rw [if_pos hz] at hr h2
     have hzk : zOf ops k = true := by
       unfold zOf
       have := congrArg List.head? hr
       simp only [List.head?_cons, List.head?_drop] at this
       rw [List.getD_eq_getElem?_getD, ← this]; rfl
     have hr2 : adh (ops.toList.drop (k + 1)) (yc b (jq ops (zOf ops) k)) (jq ops (zOf ops) (k + 1)) = (adh ops.toList 0 []).drop (k + 1) := by
       have := congrArg List.tail hr
       simp only [List.tail_cons, List.tail_drop] at this
       rw [hrest, hzk, if_pos rfl, this]
     have h2' : gdA ops (tS ops s.t xs (zOf ops) k) ops[k].guard (gop P (hS s.h ns (zOf ops) (zOf ops) k) (ev (tS ops s.t xs (zOf ops) k)) ops[k].op fun v n =>
         lv P ops (ops.toList.drop (k + 1)) (yc b (jq ops (zOf ops) k)) (jq ops (zOf ops) k) (({ s with t := tS ops s.t xs (zOf ops) k, h := hS s.h ns (zOf ops) (zOf ops) k ++ n } : St).put ops[k].dst v) K)
         (lv P ops (ops.toList.drop (k + 1)) (yc b (jq ops (zOf ops) k)) (jq ops (zOf ops) k) (({ s with t := tS ops s.t xs (zOf ops) k, h := hS s.h ns (zOf ops) (zOf ops) k ++ [] } : St).put ops[k].dst .skip) K) := by
       rw [List.append_nil]; exact h2
     obtain ⟨x, n, h3, h4⟩ := agf (ag9 P (hS s.h ns (zOf ops) (zOf ops) k) (ev (tS ops s.t xs (zOf ops) k)) ops[k].op)
       (K := fun v n => lv P ops (ops.toList.drop (k + 1)) (yc b (jq ops (zOf ops) k)) (jq ops (zOf ops) k) (({ s with t := tS ops s.t xs (zOf ops) k, h := hS s.h ns (zOf ops) (zOf ops) k ++ n } : St).put ops[k].dst v) K) h2'
     have agree : ∀ i, i ≤ k → tS ops s.t (fun j => if j = k then x else xs j) (zOf ops) i = tS ops s.t xs (zOf ops) i := by
       intro i
       induction i with
       | zero => intro _; rfl
       | succ i ih =>
         intro hi
         simp only [tS]
         rw [ih (by omega)]
         simp only [if_neg (show ¬ i = k by omega)]
     have agreeH : ∀ i, i ≤ k → hS s.h (fun j => if j = k then n else ns j) (zOf ops) (zOf ops) i = hS s.h ns (zOf ops) (zOf ops) i := by
       intro i
       induction i with
       | zero => intro _; rfl
       | succ i ih =>
         intro hi
         simp only [hS]
         rw [ih (by omega)]
         simp only [if_neg (show ¬ i = k by omega)]
     refine ⟨fun j => if j = k then x else xs j, fun j => if j = k then n else ns j, _, fun i o hi zi ho => ?_, hr2, ?_⟩
     · rw [agree i (by omega), agreeH i (by omega)]
       by_cases e : i = k
       · subst e
         rw [hget] at ho; simp at ho; subst ho
         simp only [if_true]
         exact h4
       · simp only [if_neg e]
         exact h1 i o (by omega) zi ho
     · rw [hrest, hzk, if_pos rfl]
       have e1 : tS ops s.t (fun j => if j = k then x else xs j) (zOf ops) (k + 1) = zb (tS ops s.t xs (zOf ops) k) ops[k].dst x := by
         simp only [tS]
         rw [agree k (Nat.le_refl _), hzk]
         simp [dw, hget]
       have e2 : hS s.h (fun j => if j = k then n else ns j) (zOf ops) (zOf ops) (k + 1) = hS s.h ns (zOf ops) (zOf ops) k ++ n := by
         simp only [hS]
         rw [agreeH k (Nat.le_refl _), hzk]
         simp
       rw [e1, e2]
       rw [put_eq] at h3
       exact h3
   · rw [if_neg hz] at hr h2
     have hzk : zOf ops k = false := by
       unfold zOf
       have := congrArg List.head? hr
       simp only [List.head?_cons, List.head?_drop] at this
       rw [List.getD_eq_getElem?_getD, ← this]; rfl
     refine ⟨xs, ns, b, fun i o hi zi ho => ?_, ?_, ?_⟩
     · by_cases e : i = k
       · subst e; rw [hzk] at zi; cases zi
       · exact h1 i o (by omega) zi ho
     · have := congrArg List.tail hr
       simp only [List.tail_cons, List.tail_drop] at this
       rw [hrest, hzk, ← this]; rfl
     · rw [hrest, hzk]
       simp only [tS, hS, hzk]
       exact h2

def left (n : Nat) (listed : Array Bool) : Nat := ((List.range n).filter fun i => !listed.getD i true).length

theorem filter_lt {f g : Nat → Bool} {i : Nat} : ∀ (l : List Nat), i ∈ l → (∀ j, g j = true → f j = true) → f i = true → g i = false → (l.filter g).length < (l.filter f).length
 | [], h, _, _, _ => by simp at h
 | x :: l, h, hgf, hf, hg => by
   have le : ∀ (l : List Nat), (l.filter g).length ≤ (l.filter f).length := by
     intro l
     induction l with
     | nil => simp
     | cons y l ih =>
       simp only [List.filter_cons]
       cases hgy : g y
       · cases f y <;> simp <;> omega
       · rw [hgf y hgy]; simp; omega
   simp only [List.filter_cons]
   by_cases e : x = i
   · subst e
     rw [hf, hg]
     simp
     have := le l; omega
   · have hm : i ∈ l := by simpa [Ne.symm e] using h
     have ih := filter_lt l hm hgf hf hg
     cases hgx : g x
     · cases f x <;> simp <;> omega
     · rw [hgf x hgx]; simp; omega

theorem km {n : Nat} {listed : Array Bool} {i : Nat} (hi : i < n) (hl : listed.size = n) (h : listed.getD i true = false) : left n (listed.setIfInBounds i true) < left n listed := by
 unfold left
 refine filter_lt (List.range n) (List.mem_range.2 hi) (fun j hj => ?_) (by simp [h]) ?_
 · by_cases e : i = j
   · subst e; simp [show i < listed.size from by omega] at hj
   · rw [getD_set_ne true e] at hj; exact hj
 · simp [show i < listed.size from by omega]

theorem fg {listed : Array Bool} {i : Nat} (hi : i < listed.size) : listed.getD i true = listed.getD i false := by simp [Array.getD, hi]

end
end Go.Lv
end
section
namespace Go.Lv

section
variable {P : Program} {ops : Array Oper} {z tk lt : Nat → Bool} {B : Nat → Nat → Prop}

theorem l4.B_lt (D : l4 ops z B tk lt) : ∀ (i j : Nat), i < ops.size → B i j → j < i := by
 intro i
 induction i using Nat.strongRecOn with
 | _ i ih =>
   intro j hi hB
   have hget : ops[i]? = some ops[i] := Array.getElem?_eq_getElem hi
   obtain ⟨e, he, hb, h⟩ := D.clo i _ j hget hB
   have hlt := D.lt i _ hget e he hb
   rcases h with h | h
   · omega
   · have := ih e.on hlt j (by omega) h
     omega

theorem l4.zB (D : l4 ops z B tk lt) : ∀ (i j : Nat), i < ops.size → z i = true → B i j → z j = true := by
 intro i
 induction i using Nat.strongRecOn with
 | _ i ih =>
   intro j hi hz hB
   have hget : ops[i]? = some ops[i] := Array.getElem?_eq_getElem hi
   obtain ⟨e, he, hb, h⟩ := D.clo i _ j hget hB
   have hlt := D.lt i _ hget e he hb
   have hze := D.noq i _ hget hz e he hb
   rcases h with h | h
   · rw [← h]; exact hze
   · exact ih e.on hlt j (by omega) hze h

def vu (B : Nat → Nat → Prop) (listed : Array Bool) : Prop := ∀ i j, listed.getD i false = true → B i j → listed.getD j false = true

theorem iu (D : l4 ops z B tk lt) {listed : Array Bool} (hc : vu B listed) {i : Nat} (hr : i ∈ Region.ready .any ops listed) {j : Nat} (hB : B i j) : listed.getD j false = true := by
 obtain ⟨_, o, ho, hall⟩ := mem_ready.1 hr
 obtain ⟨e, he, hb, h⟩ := D.clo i o j ho hB
 have h1 := hall e he hb
 rcases h with h | h
 · rw [← h]; exact h1
 · exact hc _ _ h1 h

theorem fj {listed : Array Bool} {i : Nat} (hr : i ∈ Region.ready .any ops listed) : i < ops.size ∧ listed.getD i true = false := by
 obtain ⟨h0, o, ho, _⟩ := mem_ready.1 hr
 exact ⟨(Array.getElem?_eq_some_iff.1 ho).1, h0⟩

theorem progress (D : l4 ops z B tk lt) {listed : Array Bool} {i : Nat} (hi : i < ops.size) (hu : listed.getD i true = false) (hall : ∀ j, j < i → (z i = true → z j = true) → listed.getD j false = true) : i ∈ Region.ready .any ops listed := by
 have hget : ops[i]? = some ops[i] := Array.getElem?_eq_getElem hi
 exact mem_ready.2 ⟨hu, _, hget, fun e he hb => hall _ (D.lt i _ hget e he hb) (fun hz => D.noq i _ hget hz e he hb)⟩

theorem yx {n : Nat} {listed : Array Bool} {i : Nat} (hi : i < n) (hu : listed.getD i true = false) : 0 < left n listed := by
 unfold left
 exact List.length_pos_of_mem (List.mem_filter.2 ⟨List.mem_range.2 hi, by simp [hu]⟩)

variable {w0 : World} {m0 : Nat → Nat} {h0 : Hp} {av0 : Nat → Prop}

theorem cd {listed : Array Bool} {i j : Nat} (hi : i < listed.size) : (listed.setIfInBounds i true).getD j false = if i = j then true else listed.getD j false := by
 by_cases e : i = j
 · subst e; simp [hi]
 · rw [getD_set_ne false e, if_neg e]

theorem na {q : Nat} (hq : q < ops.size) : ez ops z q = if z q then ez ops z (q + 1) else ops[q] :: ez ops z (q + 1) := by
 unfold ez
 rw [List.drop_eq_getElem_cons (by simpa using hq), List.filterMap_cons]
 simp only [List.getElem_range, Array.getElem?_eq_getElem hq]
 cases z q <;> rfl

theorem akz (D : l4 ops z B tk lt) {Q : Exit → Act → World → Prop} {K : St → Prop} (hk : ∀ s' a' w' m', K s' → Inv w0 m0 h0 av0 s' a' w' m' → Q .normal a' w') :
   ∀ (d q : Nat), q + d = ops.size → ∀ (fuel : Nat) (listed : Array Bool) (s : St) (a : Act) (w : World) (m : Nat → Nat), listed.size = ops.size → (∀ i, i < ops.size → (listed.getD i false = true ↔ z i = true ∨ i < q)) → left ops.size listed ≤ fuel →
     Inv w0 m0 h0 av0 s a w m → fx P ops (ez ops z q) s K → wpAny P .any ops Q fuel listed a w := by
 intro d
 induction d with
 | zero =>
   intro q hq fuel listed s a w m hl hli hf I hops
   have e : ez ops z q = [] := by unfold ez; rw [List.drop_of_length_le (by simp; omega)]; rfl
   rw [e] at hops
   refine wpAny_done (List.eq_nil_iff_forall_not_mem.2 fun i hr => ?_) (hk s a w m hops I) fuel
   obtain ⟨h1, h2⟩ := fj hr
   have := (hli i h1).2 (.inr (by omega))
   rw [fg (by omega)] at h2
   rw [this] at h2
   cases h2
 | succ d ih =>
   intro q hq fuel listed s a w m hl hli hf I hops
   have hqn : q < ops.size := by omega
   rw [na hqn] at hops
   by_cases hzq : z q = true
   · rw [if_pos hzq] at hops
     refine ih (q + 1) (by omega) fuel listed s a w m hl (fun i hi => ?_) hf I hops
     rw [hli i hi]
     by_cases e : i = q
     · subst e; simp [hzq]
     · constructor <;> rintro (h | h) <;> first | exact .inl h | exact .inr (by omega)
   · rw [if_neg hzq] at hops
     have hu : listed.getD q true = false := by
       rw [fg (by omega)]
       cases hx : listed.getD q false
       · rfl
       · rcases (hli q hqn).1 hx with h | h
         · exact absurd h hzq
         · omega
     cases fuel with
     | zero => have := yx hqn hu; omega
     | succ fuel =>
       have hpr : q ∈ Region.ready .any ops listed := progress D hqn hu (fun j hj _ => (hli j (by omega)).2 (.inr hj))
       refine ⟨(fun hr => by rw [hr] at hpr; cases hpr), fun i hr => ?_⟩
       obtain ⟨hi, hui⟩ := fj hr
       have hni : ¬ (z i = true ∨ i < q) := by
         intro h
         have := (hli i hi).2 h
         rw [fg (by omega), this] at hui
         cases hui
       have hiq : i = q := by
         rcases Nat.lt_or_ge q i with h | h
         · exfalso
           have hzi : z i = false := by cases hx : z i
                                        · rfl
                                        · exact absurd (.inl hx) hni
           have hB := D.bar i q hi hzi h (by simpa using hzq)
           obtain ⟨_, o, ho, hall⟩ := mem_ready.1 hr
           obtain ⟨e, he, hb, hh⟩ := D.clo i o q ho hB
           have h1 := hall e he hb
           have h2 := D.lt i o ho e he hb
           have h3 := (hli e.on (by omega)).1 h1
           rcases hh with hh | hh
           · rw [hh] at h3
             rcases h3 with h3 | h3
             · exact hzq h3
             · omega
           · rcases h3 with h3 | h3
             · exact hzq (D.zB e.on q (by omega) h3 hh)
             · have := D.B_lt e.on q (by omega) hh
               omega
         · omega
       subst hiq
       have hget : ops[i]? = some ops[i] := Array.getElem?_eq_getElem hi
       have next : ∀ (s' : St) (a' : Act) (w' : World) (m' : Nat → Nat), Inv w0 m0 h0 av0 s' a' w' m' → fx P ops (ez ops z (i + 1)) s' K → wpAny P .any ops Q fuel (listed.setIfInBounds i true) a' w' := by
         intro s' a' w' m' I' h'
         refine ih (i + 1) (by omega) fuel _ s' a' w' m' (by simpa using hl) (fun j hj => ?_) (by have := km hi hl hu; omega) I' h'
         rw [cd (by omega)]
         by_cases e : i = j
         · subst e; simp
         · rw [if_neg e, hli j hj]
           constructor <;> rintro (h | h) <;> first | exact .inl h | exact .inr (by omega)
       unfold wpOp
       simp only [hget]
       unfold fx at hops
       rcases mn I hops with ⟨h1, h2⟩ | ⟨h1, h2⟩
       · rw [if_pos h1]
         exact .inl (acq I h2 (fun s' a' w' m' h3 h4 => next s' a' w' m' h4 h3))
       · rw [if_neg (by simp [h1])]
         exact next _ _ w m (I.put .skip) h2

theorem fy {o : Oper} {u : Tmp} (h : Operand.tmp u ∈ o.op.operands) : u ∈ o.looksAt ops := by
 unfold Oper.looksAt
 exact List.mem_append_left _ (List.mem_filterMap.2 ⟨.tmp u, by simpa using h, rfl⟩)

theorem ln {o : Oper} {g : Nat} {b : Bool} {u : Tmp} (hg : o.guard = some (g, b)) (hu : (ops[g]?).bind (·.dst) = some u) : u ∈ o.looksAt ops := by
 unfold Oper.looksAt
 rw [hg]
 exact List.mem_append_right _ (by simp [hu])

theorem nk : ∀ (p : Nat) (f : Nat → Bool), ¬ (∀ i, i < p → f i = true) → ∃ i, i < p ∧ f i = false ∧ ∀ j, j < i → f j = true
 | 0, f, h => absurd (fun i hi => absurd hi (by omega)) h
 | p + 1, f, h => by
   by_cases h' : ∀ i, i < p → f i = true
   · refine ⟨p, by omega, ?_, h'⟩
     cases hx : f p
     · rfl
     · exact absurd (fun i hi => by
         rcases Nat.lt_or_ge i p with g | g
         · exact h' i g
         · have : i = p := by omega
           subst this; exact hx) h
   · obtain ⟨i, h1, h2, h3⟩ := nk p f h'
     exact ⟨i, by omega, h2, h3⟩

theorem ux (ops : Array Oper) (t0 : List V) (xs : Nat → V) (S S' : Nat → Bool) : ∀ q, (∀ i, i < q → S i = S' i) → tS ops t0 xs S q = tS ops t0 xs S' q
 | 0, _ => rfl
 | q + 1, h => by
   simp only [tS]
   rw [h q (by omega), ux ops t0 xs S S' q (fun i hi => h i (by omega))]

theorem zt {t t' : List V} {gd : Option (Nat × Bool)} {A A' B : Prop} (hg : ∀ g b, gd = some (g, b) → gv ops t g = gv ops t' g) (hA : A → A') (hq : gdA ops t gd A B) : gdA ops t' gd A' B := by
 unfold gdA at *
 cases gd with
 | none => exact hA hq
 | some jw =>
   obtain ⟨j, want⟩ := jw
   dsimp only at *
   rw [← hg j want rfl]
   unfold tl at *
   split at hq
   · exact ⟨fun e => hA (hq.1 e), hq.2⟩
   · exact hq
   · exact hq.elim

theorem abz {w : World} {m : Nat → Nat} {h : Hp} {av : Nat → Prop} {u : Value} {x : V} {s : TypeId} {f : Nat} {K : V → Prop} (hx : RV w m h av true u x) (hq : ea P s f x K) :
   ∃ v y, K y ∧ RV w m h av true v y ∧ ∀ w', (Instr.fieldAt s u f).run P w' = .ok v w' := by
 unfold ea at hq
 split at hq
 · rename_i off sz ag ht
   obtain ⟨fs, fd, i, d, h1, h2, rfl, h4, h5, rfl, h7⟩ := aae ht
   obtain ⟨hpos, hq⟩ := hq
   have hne : ¬ i.size = 0 := by omega
   have run : ∀ b o w', (Instr.fieldAt s (.pointer (some ⟨b, o, none⟩)) f).run P w' = .ok (.pointer (some ⟨b, o + fd.offset, none⟩)) w' := by
     intro b o w'
     simp [Instr.fieldAt, run_underlying h1, h2, Instr.sureAddr, fieldPlace, sizeOf, typeInfo, h4, hne, Addr.add_lit]
   cases hx with
   | pt b o cs vals ha hv hr =>
     refine ⟨_, _, hq, .pt b (o + fd.offset) _ (fun j => vals (fd.offset + j)) (fun hne => ha (by rintro rfl; simp at hne)) (fun j hj => ?_) (fun j hj => ?_), run b o⟩
     · rw [Nat.add_assoc]; exact hv _ (by simp at hj; omega)
     · rw [List.getElem_drop]; exact hr _ _
   | ptr id o cs hid => exact ⟨_, _, hq, .ptr id _ cs hid, run _ o⟩
   | _ => exact False.elim hq
 · exact hq.elim

def isLit : V → Bool
 | .int _ _ => true
 | .str _ => true
 | .bool _ => true
 | _ => false
def akx : V → Value
 | .int k n => .int k n
 | .str s => .string s
 | .bool b => .bool b
 | _ => Go.undef
theorem aqk {w : World} {m : Nat → Nat} {h : Hp} {av : Nat → Prop} {o : Bool} {v : Value} {x : V} (hl : isLit x = true) (hx : RV w m h av o v x) : v = akx x := by
 cases hx <;> first | rfl | (cases hl; done)
theorem aci {w : World} {m : Nat → Nat} {h : Hp} {av : Nat → Prop} {o : Bool} {x : V} (hl : isLit x = true) : RV w m h av o (akx x) x := by
 cases x <;> first | exact .int _ _ | exact .str _ | exact .bool _ | (cases hl; done)
theorem as1 {op : BinOp} {t : TypeId} {x y : V} {K : V → Prop} (hq : bin P op t x y K) : bin P op t x y (fun z => K z ∧ isLit z = true) := by
 unfold bin at hq ⊢
 split at hq
 · refine ⟨hq.1, ?_⟩
   have h := hq.2
   cases op <;> simp only [vh] at h ⊢ <;> first | exact ⟨h, rfl⟩ | exact ⟨h.1, h.2, rfl⟩ | exact h
 · cases op <;> simp only [va] at hq ⊢ <;> first | exact ⟨hq, rfl⟩ | exact ⟨hq.1, hq.2, rfl⟩ | exact hq
 · refine ⟨hq.1, ?_⟩
   have h := hq.2
   split at h
   · exact ⟨h, rfl⟩
   · exact ⟨h, rfl⟩
   · exact h.elim
 · split at hq
   · split at hq
     · split at hq
       · exact ⟨hq, rfl⟩
       · exact ⟨hq, rfl⟩
       · exact hq.elim
     · exact hq.elim
   · exact hq.elim
 · exact hq.elim
theorem amp : ∀ {ds : List TypeDesc} {a b : List V} {r : Bool}, eqL ds a b = some r → (∀ x ∈ a, isLit x = true) ∧ ∀ x ∈ b, isLit x = true
 | [], [], [], _, _ => ⟨fun x h => by simp at h, fun x h => by simp at h⟩
 | d :: ds, u :: a, v :: b, r, h => by
   unfold eqL at h
   split at h
   · rename_i x1 x2 h1 h2
     have ih := amp h2
     have hu : isLit u = true ∧ isLit v = true := by
       unfold eqV at h1
       split at h1 <;> first | exact ⟨rfl, rfl⟩ | (cases h1; done)
     exact ⟨fun x hx => by rcases List.mem_cons.1 hx with rfl | hx; exact hu.1; exact ih.1 x hx, fun x hx => by rcases List.mem_cons.1 hx with rfl | hx; exact hu.2; exact ih.2 x hx⟩
   · cases h
 | [], _ :: _, _, _, h => by simp [eqL] at h
 | [], [], _ :: _, _, h => by simp [eqL] at h
 | _ :: _, [], _, _, h => by simp [eqL] at h
 | _ :: _, _ :: _, [], _, h => by simp [eqL] at h
theorem ami {w w' : World} {m : Nat → Nat} {h : Hp} {av : Nat → Prop} {v : Value} {cs : List V} (hl : ∀ x ∈ cs, isLit x = true) (hx : RV w m h av true v (.agg cs)) : RV w' m h av true v (.agg cs) := by
 cases hx with
 | agg a a' ha hra =>
   refine .agg a _ ha (fun i hi => ?_)
   have h1 := hl _ (List.getElem_mem hi)
   rw [aqk h1 (hra i hi)]
   exact aci h1
theorem aqo {w w' : World} {m : Nat → Nat} {h : Hp} {av : Nat → Prop} {u v : Value} {op : BinOp} {t : TypeId} {x y : V} {K : V → Prop} (hx : RV w m h av true u x) (hy : RV w m h av true v y) (hq : bin P op t x y K) :
   RV w' m h av true u x ∧ RV w' m h av true v y := by
 unfold bin at hq
 split at hq
 · cases hx; cases hy; exact ⟨.int _ _, .int _ _⟩
 · cases hx; cases hy; exact ⟨.str _, .str _⟩
 · cases hx; cases hy; exact ⟨.bool _, .bool _⟩
 · split at hq
   · split at hq
     · rename_i r he
       obtain ⟨h1, h2⟩ := amp he
       exact ⟨ami h1 hx, ami h2 hy⟩
     · exact hq.elim
   · exact hq.elim
 · exact hq.elim
theorem abw {w : World} {m : Nat → Nat} {h : Hp} {av : Nat → Prop} {u v : Value} {op : BinOp} {t : TypeId} {x y : V} {K : V → Prop} (hx : RV w m h av true u x) (hy : RV w m h av true v y) (hq : bin P op t x y K) :
   ∃ z, K z ∧ isLit z = true ∧ ∀ w' ox oy, (do eqGuard op t ox oy u v; binOp op t u v : Sem Value).run P w' = .ok (akx z) w' := by
 obtain ⟨z, hz, hq'⟩ := amf P op t x y _ (as1 hq)
 refine ⟨z, hz.1, hz.2, fun w' ox oy => ?_⟩
 obtain ⟨g1, g2⟩ := aqo (w' := w') hx hy hq'
 obtain ⟨v', x', h1, h2, h3⟩ := apl (ox := ox) (oy := oy) g1 g2 hq'
 subst h1
 rw [aqk hz.2 h2] at h3
 exact h3

theorem yt {w : World} {m : Nat → Nat} {h : Hp} {av : Nat → Prop} {u v : Value} {x : V} {k : IntKind} {z : Int} {t : TypeId} {K : V → Prop} (hx : RV w m h av true u x) (hv : v = .int k z) (hq : dp P t x z K) :
   ∃ v' y, K y ∧ RV w m h av true v' y ∧ ∀ w', (Instr.indexAt t u v).run P w' = .ok v' w' := by
 unfold dp at hq
 subst hv
 cases hx with
 | sl b off n cap wd cs vals hl ha hc hcell hr =>
   dsimp only at hq
   split at hq
   · rename_i e sz by_ he
     obtain ⟨i, h1, h2, rfl, h4⟩ := gy he
     obtain ⟨⟨h5, h6⟩, rfl, hk⟩ := hq
     have hzn : z.toNat < n := by omega
     have hroom : z.toNat * i.size + i.size ≤ cs.length := ac8 hzn hl
     refine ⟨_, _, hk, .pt b (off + z.toNat * i.size) _ (fun j => vals (z.toNat * i.size + j)) (fun hne => ha (by rintro rfl; simp at hne)) (fun j hj => ?_) (fun j hj => ?_), fun w' => l3 t e i h1 h2 b off n cap k z h5 h6⟩
     · rw [Nat.add_assoc]; exact hcell _ (by simp at hj; omega)
     · simp only [List.getElem_take, List.getElem_drop]; exact hr _ _
   · exact hq.elim
 | slz a c wd =>
   dsimp only at hq
   split at hq
   · exact absurd hq.1 (by omega)
   · exact hq.elim
 | osl id off n cap wd cs hid hl hc hs =>
   dsimp only at hq
   split at hq
   · rename_i e sz by_ he
     obtain ⟨i, h1, h2, rfl, h4⟩ := gy he
     obtain ⟨⟨h5, h6⟩, rfl, hk⟩ := hq
     exact ⟨_, _, hk, .ptr id _ cs hid, fun w' => l3 t e i h1 h2 _ off n cap k z h5 h6⟩
   · exact hq.elim
 | ptr id off cs hid =>
   dsimp only at hq
   split at hq
   · rename_i n sz ag he
     obtain ⟨e, i, d, h1, h2, h3, rfl, rfl⟩ := r9 he
     obtain ⟨⟨h5, h6⟩, hk⟩ := hq
     exact ⟨_, _, hk, .ptr id _ cs hid, fun w' => lq t e n i h1 h2 _ off k z h5 h6⟩
   · exact hq.elim
 | pt b off cs vals ha hcell hr =>
   dsimp only at hq
   split at hq
   · rename_i n sz ag he
     obtain ⟨e, i, d, h1, h2, h3, rfl, rfl⟩ := r9 he
     obtain ⟨⟨h5, h6⟩, hk⟩ := hq
     refine ⟨_, _, hk, .pt b (off + z.toNat * i.size) _ (fun j => vals (z.toNat * i.size + j)) (fun hne => ha (by rintro rfl; simp at hne)) (fun j hj => ?_) (fun j hj => ?_), fun w' => lq t e n i h1 h2 b off k z h5 h6⟩
     · rw [Nat.add_assoc]; exact hcell _ (by simp at hj; omega)
     · simp only [List.getElem_drop]; exact hr _ _
   · exact hq.elim
 | _ => exact False.elim hq

theorem Inv.pad {s : St} {a : Act} {w : World} {m : Nat → Nat} (I : Inv w0 m0 h0 av0 s a w m) (k : Nat) : Inv w0 m0 h0 av0 { s with h := s.h ++ List.replicate k none } a w m := by
 have hcase : ∀ (j : Nat) (c : List V), (s.h ++ List.replicate k none)[j]? = some (some c) → s.h[j]? = some (some c) := by
   intro j c h
   rcases Nat.lt_or_ge j s.h.length with h1 | h1
   · rw [List.getElem?_append_left h1] at h; exact h
   · rw [List.getElem?_append_right h1, List.getElem?_replicate] at h
     split at h <;> cases h
 have hold : ∀ (j : Nat) (c : List V), s.h[j]? = some (some c) → (s.h ++ List.replicate k none)[j]? = some (some c) := fun j c h => by
   rw [List.getElem?_append_left (dy h)]; exact h
 have hown : ∀ b, own m (s.h ++ List.replicate k none) b → own m s.h b := by
   rintro b ⟨j, c, h1, rfl⟩
   exact ⟨j, c, hcase j c h1, rfl⟩
 have hstep : ∀ {o : Bool} {v : Value} {x : V}, RV w m s.h (avm av0 m s.h) o v x → RV w m (s.h ++ List.replicate k none) (avm av0 m (s.h ++ List.replicate k none)) o v x :=
   fun hx => hx.step (fun b off' v hb hc => ⟨fun h => hb (h.imp (fun h => h) (hown b)), hc⟩) (fun id c hid => ⟨c, hold id c hid, Nat.le_refl _, rfl, Nat.le_refl _, rfl⟩)
 refine ⟨⟨fun i j ci cj h1 h2 he => I.rh.inj i j ci cj (hcase i ci h1) (hcase j cj h2) he, fun j c h1 => .inr ⟨j, c, h1, rfl⟩, fun j c h1 => (I.rh.blk j c (hcase j c h1)).step rfl (fun v x => hstep)⟩, I.size, fun i hi => hstep (I.slots i hi), I.defers, I.ext, fun j c h1 => I.ids j c (hcase j c h1), I.lt, I.lent, I.gl, I.k, by
   have := I.len
   simp only [List.length_append]; omega⟩

theorem ax4 (D : l4 ops z B tk) {Q : Exit → Act → World → Prop} {K : St → Prop} (hQp : ∀ c a a' w, Q (.panic c) a w → Q (.panic c) a' w) (hk : ∀ s' a' w' m', K s' → Inv w0 m0 h0 av0 s' a' w' m' → Q .normal a' w') {s : St} (hlen : h0.length ≤ s.h.length) {xs : Nat → V} {ns : Nat → Hp}
   (hgo : ∀ i o, i < ops.size → z i = true → ops[i]? = some o → Go2 P ops (hS s.h ns z z i) o (tS ops s.t xs z i) (xs i) (ns i)) (hend : fx P ops (ez ops z 0) { s with t := tS ops s.t xs z ops.size, h := hS s.h ns z z ops.size } K) :
   ∀ (fuel : Nat) (listed : Array Bool) (a : Act) (w : World) (m : Nat → Nat), listed.size = ops.size → vu B listed → (∀ i, listed.getD i false = true → z i = true) → left ops.size listed ≤ fuel →
     Inv w0 m0 h0 av0 { s with t := tS ops s.t xs (fun i => listed.getD i false) ops.size, h := hS s.h ns z (fun i => listed.getD i false) ops.size } a w m → wpAny P .any ops Q fuel listed a w := by
 have done : ∀ (fuel : Nat) (listed : Array Bool) (a : Act) (w : World) (m : Nat → Nat), listed.size = ops.size → (∀ i, listed.getD i false = true → z i = true) → left ops.size listed ≤ fuel →
     Inv w0 m0 h0 av0 { s with t := tS ops s.t xs (fun i => listed.getD i false) ops.size, h := hS s.h ns z (fun i => listed.getD i false) ops.size } a w m → (∀ i, i < ops.size → z i = true → listed.getD i false = true) → wpAny P .any ops Q fuel listed a w := by
   intro fuel listed a w m hl hlz hf I hall
   have hsz : ∀ i, i < ops.size → listed.getD i false = z i := fun i hi => by
     cases hz : z i
     · cases hx : listed.getD i false
       · rfl
       · rw [hlz i hx] at hz; cases hz
     · exact hall i hi hz
   rw [ux ops s.t xs _ z ops.size hsz, ju s.h ns z ops.size (fun i hi _ => hsz i hi)] at I
   refine akz D hk ops.size 0 (by omega) fuel listed _ a w m hl (fun i hi => ?_) hf I hend
   rw [hsz i hi]; simp
 intro fuel
 induction fuel with
 | zero =>
   intro listed a w m hl hc hlz hf I
   refine done 0 listed a w m hl hlz hf I (fun i hi _ => ?_)
   cases hx : listed.getD i false
   · have := yx (listed := listed) hi (by rw [fg (by omega)]; exact hx)
     omega
   · rfl
 | succ fuel ih =>
   intro listed a w m hl hc hlz hf I
   by_cases hall : ∀ i, i < ops.size → (!(z i) || listed.getD i false) = true
   · exact done (fuel + 1) listed a w m hl hlz hf I (fun i hi hz => by have := hall i hi; simpa [hz] using this)
   · obtain ⟨k, hkn, hku, hkl⟩ := nk ops.size (fun i => !(z i) || listed.getD i false) hall
     simp only [Bool.or_eq_false_iff, Bool.not_eq_false'] at hku
     obtain ⟨hkz, hku⟩ := hku
     have hkr : k ∈ Region.ready .any ops listed := progress D hkn (by rw [fg (by omega)]; exact hku) (fun j hj hz => by
       have := hkl j hj
       simpa [hz hkz] using this)
     -- one quiet operation, ready
     have main : ∀ i, i ∈ Region.ready .any ops listed → z i = true → (∃ hi : i < ops.size, Go2 P ops (hS s.h ns z z i) ops[i] (tS ops s.t xs (fun i => listed.getD i false) ops.size) (xs i) (ns i) ∧
         ∀ (v : Value) (w' : World) (m' : Nat → Nat), Inv w0 m0 h0 av0 (({ s with t := tS ops s.t xs (fun i => listed.getD i false) ops.size, h := dd (hS s.h ns z (fun i => listed.getD i false) ops.size) (hS s.h ns z z i).length (ns i) } : St).put ops[i].dst (xs i)) (a.put ops[i].dst v) w' m' →
           wpAny P .any ops Q fuel (listed.setIfInBounds i true) (a.put ops[i].dst v) w') := by
       intro i hr hzi
       obtain ⟨hi, hu⟩ := fj hr
       have hu' : listed.getD i false = false := by rw [← fg (by omega)]; exact hu
       have hget : ops[i]? = some ops[i] := Array.getElem?_eq_getElem hi
       have hwr : ∀ u, (u ∈ ops[i].looksAt ops ∨ ops[i].dst = some u) → ∀ j, j < ops.size → dw ops j = some u → (listed.getD j false = true ↔ j < i ∧ z j = true) := by
         intro u hmem j hj hd
         by_cases e : j = i
         · subst e; simp [hu']
         · by_cases hzj : z j = true
           · have hgj : ops[j]? = some ops[j] := Array.getElem?_eq_getElem hj
             have hcl : kn ops j i = true := by
               have hd' : ops[j].dst = some u := by simpa [dw, hgj] using hd
               unfold kn
               simp only [hgj, hget, hd']
               rcases hmem with h | h
               · simp [h]
               · simp [h]
             obtain ⟨c1, c2⟩ := D.cl i j hi hj hzi hzj e hcl
             rcases Nat.lt_or_ge j i with h | h
             · exact ⟨fun _ => ⟨h, hzj⟩, fun _ => iu D hc hr (c1 h)⟩
             · refine ⟨fun hx => ?_, fun hx => by omega⟩
               have := hc j i hx (c2 (by omega))
               rw [hu'] at this
               cases this
           · exact ⟨fun hx => absurd (hlz j hx) hzj, fun hx => absurd hx.2 hzj⟩
       have hat : ∀ u, (u ∈ ops[i].looksAt ops ∨ ops[i].dst = some u) → (tS ops s.t xs z i).getD u .undef = (tS ops s.t xs (fun i => listed.getD i false) ops.size).getD u .undef :=
         fun u hmem => (p8 ops s.t xs _ z u i ops.size (by omega) (hwr u hmem)).symm
       have hgo1 := hgo i _ hi hzi hget
       refine ⟨hi, ?_, ?_⟩
       · unfold Go2 at hgo1 ⊢
         refine zt (fun g b hg => ?_) (fun h => zn (fun x hx => y0 fun u hxu => hat u (.inl (fy (hxu ▸ hx)))) h) hgo1
         unfold gv
         cases hd : (ops[g]?).bind (·.dst) with
         | none => rfl
         | some d => exact hat d (.inl (ln hg hd))
       · intro v w' m' I'
         have hst : ({ s with t := tS ops s.t xs (fun i => listed.getD i false) ops.size, h := dd (hS s.h ns z (fun i => listed.getD i false) ops.size) (hS s.h ns z z i).length (ns i) } : St).put ops[i].dst (xs i) =
             { s with t := tS ops s.t xs (fun j => (listed.setIfInBounds i true).getD j false) ops.size, h := hS s.h ns z (fun j => (listed.setIfInBounds i true).getD j false) ops.size } := by
           rw [put_eq]
           congr 1
           · refine mz (by rw [jz, bw, bw]) (fun u hu2 => ?_)
             rw [jz, bw] at hu2
             rw [gm _ _ _ _ (by rw [bw]; exact hu2)]
             have hdi : dw ops i = ops[i].dst := by simp [dw, hget]
             by_cases hd : ops[i].dst = some u
             · rw [if_pos hd]
               rw [p8 ops s.t xs _ z u (i + 1) ops.size (by omega) (fun j hj hdj => ?_)]
               · simp only [tS, hzi, if_true]
                 rw [gm _ _ _ _ (by rw [bw]; exact hu2), hdi, if_pos hd]
               · rw [cd (by omega)]
                 by_cases e : i = j
                 · subst e; simp [hzi]
                 · rw [if_neg e, hwr u (.inr hd) j hj hdj]
                   constructor <;> rintro ⟨h, h'⟩ <;> exact ⟨by omega, h'⟩
             · rw [if_neg hd]
               refine tw ops s.t xs _ _ u hu2 ops.size (fun j hj hdj => ?_)
               rw [cd (by omega), if_neg]
               rintro rfl
               rw [hdi] at hdj
               exact hd hdj
           · refine adt s.h ns z _ _ hi hzi hu' ?_ (fun j hj => ?_)
             · rw [cd (by omega), if_pos rfl]
             · rw [cd (by omega), if_neg (Ne.symm hj)]
         rw [hst] at I'
         refine ih _ _ w' m' (by simpa using hl) (fun i' j hl' hB => ?_) (fun j hj => ?_) (by have := km hi hl hu; omega) I'
         · rw [cd (by omega)] at hl' ⊢
           by_cases e : i = j
           · rw [if_pos e]
           · rw [if_neg e]
             by_cases e' : i = i'
             · subst e'
               exact iu D hc hr hB
             · rw [if_neg e'] at hl'
               exact hc i' j hl' hB
         · rw [cd (by omega)] at hj
           by_cases e : i = j
           · subst e; exact hzi
           · rw [if_neg e] at hj
             exact hlz j hj
     by_cases ht : tk k = true
     · -- the operation goes first
       obtain ⟨hi, hg, next⟩ := main k hkr hkz
       have hget : ops[k]? = some ops[k] := Array.getElem?_eq_getElem hi
       obtain ⟨hto, hap⟩ := D.take k _ hget ht
       have hyn : ∃ v, Yields P ops ops[k] v a ∧ RV w m (hS s.h ns z (fun i => listed.getD i false) ops.size) (avm av0 m (hS s.h ns z (fun i => listed.getD i false) ops.size)) true v (xs k) ∧ ns k = [] := by
         unfold Go2 at hg
         rcases mn I hg with ⟨hw, hg⟩ | ⟨hw, hg⟩
         rotate_left
         · exact ⟨Go.undef, .inr ⟨hw, rfl⟩, by rw [hg.1]; exact .skip, hg.2⟩
         unfold mg at hto
         unfold afx at hto
         split at hto
         · rename_i T u f hop
           rw [hop] at hg
           obtain ⟨v, y, ⟨rfl, h2⟩, h3, h4⟩ := abz (P := P) (I.ev (.tmp u)) (K := fun y => y = xs k ∧ [] = ns k) hg
           refine ⟨v, .inl ⟨hw, fun w' => ?_⟩, h3, h2.symm⟩
           have := h4 w'
           generalize ops[k] = o at *
           obtain ⟨dst, op, ty, pos, after, guard⟩ := o
           subst hop
           simp [execOp, this]
         · rename_i T u1 u2 hop
           rw [hop] at hg
           obtain ⟨kd, n, e1, _, hg⟩ := kx (I.ev (.tmp u2)) (K := fun _ n => dp P T (ev _ (.tmp u1)) n fun y => y = xs k ∧ [] = ns k) hg
           obtain ⟨v, y, ⟨rfl, h2⟩, h3, h4⟩ := yt (P := P) (t := T) (I.ev (.tmp u1)) e1 hg
           refine ⟨v, .inl ⟨hw, fun w' => ?_⟩, h3, h2.symm⟩
           have := h4 w'
           generalize ops[k] = o at *
           obtain ⟨dst, op, ty, pos, after, guard⟩ := o
           subst hop
           simp [execOp, this]
         · rename_i u hop
           rw [hop] at hg
           obtain ⟨e1, h2⟩ : ev (tS ops s.t xs (fun i => listed.getD i false) ops.size) (.tmp u) = xs k ∧ [] = ns k := hg
           refine ⟨a.eval (.tmp u), .inl ⟨hw, fun w' => ?_⟩, ?_, h2.symm⟩
           · generalize ops[k] = o at *
             obtain ⟨dst, op, ty, pos, after, guard⟩ := o
             subst hop
             simp [execOp]
           · have := I.ev (.tmp u)
             rw [e1] at this
             exact this
         · rename_i u x1 x2 hop
           rw [hop] at hg
           obtain ⟨b, e1, _, e2, h2⟩ := lh (I.ev (.tmp u)) (K := fun b => (if b then ev (tS ops s.t xs (fun i => listed.getD i false) ops.size) x1 else ev (tS ops s.t xs (fun i => listed.getD i false) ops.size) x2) = xs k ∧ [] = ns k) hg
           refine ⟨if b then a.eval x1 else a.eval x2, .inl ⟨hw, fun w' => ?_⟩, ?_, h2.symm⟩
           · generalize ops[k] = o at *
             obtain ⟨dst, op, ty, pos, after, guard⟩ := o
             subst hop
             cases b <;> simp [execOp, e1, asBool]
           · rw [← e2]
             cases b
             · exact I.ev x2
             · exact I.ev x1
         · rename_i bop T x1 x2 t' hop
           rw [hop] at hg
           obtain ⟨z, ⟨e1, h2⟩, hl, h4⟩ := abw (P := P) (t := T) (K := fun y => y = xs k ∧ [] = ns k) (I.ev x1) (I.ev x2) hg
           refine ⟨akx z, .inl ⟨hw, fun w' => ?_⟩, by rw [← e1]; exact aci hl, h2.symm⟩
           have := h4 w' x1 x2
           generalize ops[k] = o at *
           obtain ⟨dst, op, ty, pos, after, guard⟩ := o
           subst hop
           simp only [execOp]
           rw [Sem.run_bind, this]
           rfl
         · rename_i u j hop
           rw [hop] at hg
           change nr (ev (tS ops s.t xs (fun i => listed.getD i false) ops.size) (.tmp u)) j (fun y => y = xs k ∧ [] = ns k) at hg
           have hx := I.ev (.tmp u)
           generalize hue : a.eval (.tmp u) = uv at hx
           dsimp only at hx
           generalize ev (tS ops s.t xs (fun i => listed.getD i false) ops.size) (.tmp u) = xv at hx hg
           cases hx with
           | tup ar vs ha hra =>
             unfold nr at hg
             dsimp only at hg
             split at hg
             · rename_i v hv
               have hlt : j < vs.length := (List.getElem?_eq_some_iff.1 hv).1
               have hr := hra j hlt
               rw [(List.getElem?_eq_some_iff.1 hv).2] at hr
               have hlt' : j < ar.size := by omega
               refine ⟨ar.getD j Go.undef, .inl ⟨hw, fun w' => ?_⟩, by rw [← hg.1]; exact hr, hg.2.symm⟩
               generalize ops[k] = o at *
               obtain ⟨dst, op, ty, pos, after, guard⟩ := o
               subst hop
               simp [execOp, hue, Instr.extract, Array.getD, hlt']
             · exact hg.elim
           | _ => exact hg.elim
         · rename_i T x hop
           rw [hop] at hg
           obtain ⟨b, e1, _, e2, h2⟩ := lh (I.ev x) (K := fun b => V.bool (!b) = xs k ∧ [] = ns k) hg
           refine ⟨.bool (!b), .inl ⟨hw, fun w' => ?_⟩, by rw [← e2]; exact .bool _, h2.symm⟩
           generalize ops[k] = o at *
           obtain ⟨dst, op, ty, pos, after, guard⟩ := o
           subst hop
           simp [execOp, Op.unary, e1]
         · rename_i u hop
           rw [hop] at hg
           have hnil : wm (ev (tS ops s.t xs (fun i => listed.getD i false) ops.size) (.tmp u)) (fun y => y = xs k ∧ [] = ns k) := hg
           have hx := I.ev (.tmp u)
           refine ⟨a.eval (.tmp u), .inl ⟨hw, fun w' => ?_⟩, ?_, ?_⟩
           · generalize ops[k] = o at *
             obtain ⟨dst, op, ty, pos, after, guard⟩ := o
             subst hop
             dsimp only at hx
             generalize hue : a.eval (.tmp u) = uv at hx
             generalize ev (tS ops s.t xs (fun i => listed.getD i false) ops.size) (.tmp u) = xv at hx hnil
             cases hx with
             | ptr id off cs hid => simp [execOp, hue]
             | pt b off cs vals ha hv hr => simp [execOp, hue]
             | fn f a1 c1 a' c' ha hc hra hrc =>
               cases f with
               | func f => simp [execOp, hue]
               | _ => exact False.elim hnil
             | _ => exact False.elim hnil
           · have he : ev (tS ops s.t xs (fun i => listed.getD i false) ops.size) (.tmp u) = xs k := by
               unfold wm at hnil
               split at hnil <;> first | (rename_i hh; rw [hh]; exact hnil.1) | exact hnil.1 | exact hnil.elim
             dsimp only at hx
             rw [he] at hx
             exact hx
           · unfold wm at hnil
             split at hnil <;> first | exact hnil.2.symm | exact hnil.elim
         · cases hto
       obtain ⟨v, hy, hrv, hn⟩ := hyn
       refine wpAny_first hget D.sel (fun c a' w' h => hQp c _ _ w' h) fuel listed a w (fun j oj hj hne hun hno => hap j oj hj hne (fun hB => ?_) hno) hkr hy (next v w m ?_)
       · have := iu D hc hkr hB
         rw [fg (by rw [hl]; exact (Array.getElem?_eq_some_iff.1 hj).1), this] at hun
         cases hun
       · rw [hn]
         exact I.put hrv
     · refine ⟨(fun hr => by rw [hr] at hkr; cases hkr), fun i hr => ?_⟩
       obtain ⟨hi, hu⟩ := fj hr
       have hzi : z i = true := by
         cases hx : z i
         · exfalso
           rcases D.mix i k hi hkn hx hkz with h | h | h
           · have := iu D hc hr h
             rw [hku] at this
             cases this
           · exact ht h
           · cases h
         · rfl
       obtain ⟨_, hg, next⟩ := main i hr hzi
       have hu' : listed.getD i false = false := by rw [← fg (by omega)]; exact hu
       unfold wpOp
       simp only [Array.getElem?_eq_getElem hi]
       unfold Go2 at hg
       rcases mn I hg with ⟨h1, h2⟩ | ⟨h1, h2⟩
       · rw [if_pos h1]
         refine .inl (alp I (fun id cs cs' g1 g2 => yu s.h ns z _ (Nat.le_of_lt hi) id cs cs' g1 g2) (Nat.le_trans hlen (ajy s.h ns z z i)) (fun j hj => y4 s.h ns z _ hi hzi hu' j hj) h2 (fun v w' m' I' => next v w' m' I'))
       · rw [if_neg (by simp [h1])]
         refine next _ w m ?_
         rw [h2.1, h2.2]
         exact I.put .skip

theorem abc (hm : P.follows .mixedOrders = true) (hd : bp ops = true) {Q : Exit → Act → World → Prop} {K : St → Prop} (hk : ∀ s' a' w' m', K s' → Inv w0 m0 h0 av0 s' a' w' m' → Q .normal a' w')
   {s : St} {a : Act} {w : World} {m : Nat → Nat} (I : Inv w0 m0 h0 av0 s a w m) (hq : lv P ops ops.toList 0 [] s K) {id : Nat} : (Code.region id ops true).wp P Q a w := by
 have D := aif hd
 obtain ⟨xs, ns, _, h1, _, h2⟩ := af1 hq ops.size (Nat.le_refl _)
 rw [List.drop_of_length_le (by simp)] at h2
 refine wp_mono (Q := fun e a w => e = .normal ∧ Q .normal a w) ?_ (fun e a w h => by rw [h.1]; exact h.2)
 refine wp_region_any hm ?_
 have hz : ∀ i, (Array.replicate ops.size false).getD i false = false := fun i => by simp [Array.getD]
 refine ax4 D (fun c a a' w h => by cases h.1) (fun s' a' w' m' g1 g2 => ⟨rfl, hk s' a' w' m' g1 g2⟩) I.len (fun i o hi hzi ho => h1 i o hi hzi ho) h2 ops.size _ a _ m (by simp) (fun i j hl => by rw [hz] at hl; cases hl) (fun i hl => by rw [hz] at hl; cases hl) ?_ ?_
 · unfold left
   exact Nat.le_trans (List.length_filter_le _ _) (by simp)
 · have e : tS ops s.t xs (fun i => (Array.replicate ops.size false).getD i false) ops.size = s.t := by
     rw [ux ops s.t xs _ (fun _ => false) ops.size (fun i _ => hz i)]
     have : ∀ q, tS ops s.t xs (fun _ => false) q = s.t := by
       intro q
       induction q with
       | zero => rfl
       | succ q ih => simpa [tS] using ih
     exact this _
   rw [e, ju s.h ns (zOf ops) (S' := fun _ => false) ops.size (fun i _ _ => hz i)]
   obtain ⟨k, hk'⟩ := x7 s.h ns (zOf ops) ops.size
   rw [hk']
   exact (I.world (Ext.drew _ w)).pad k

end
end Go.Lv
end
section
namespace Go.Lv

def bm (n id : Nat) : R := if id < n then .to id else .kill
def db (n : Nat) (b : Option (List V)) : Option (List V) := b.map (List.map (ren (bm n) 2))
def cb (n : Nat) (h : Hp) : Hp := (h.take n).map (db n)

section
variable {P : Program} {w0 : World} {m0 : Nat → Nat} {h0 : Hp} {av0 : Nat → Prop} {s : St} {a : Act} {w : World} {m : Nat → Nat}

theorem Inv.le {t t2 : List V} {h : Hp} {k : Nat} (I : Inv w0 m0 h0 av0 ⟨t, h, k⟩ a w m) (hl : t2.length = t.length) (hle : ∀ i (hi : i < t.length) (hi' : i < t2.length), t2[i] = t[i] ∨ t2[i] = .undef) : Inv w0 m0 h0 av0 ⟨t2, h, k⟩ a w m := by
 refine ⟨I.rh, by rw [I.size]; exact hl.symm, fun i hi => ?_, I.defers, I.ext, I.ids, I.lt, I.lent, I.gl, I.k, I.len⟩
 have hi' : i < t.length := by simpa [hl] using hi
 rcases hle i hi' hi with e | e
 · dsimp only; rw [e]; exact I.slots i hi'
 · dsimp only; rw [e]; exact .undef _

theorem ann (I : Inv w0 m0 h0 av0 s a w m) {t ty : TypeId} {y : V} {xv yv : Value} {g n e sz by_ : Nat} {zs cs cs2 : List V} {n2 : Nat} (hx : RV w m s.h (avm av0 m s.h) true xv (.osl g 0 n sz)) (hg : s.h[g]? = some (some cs)) (hn : n * sz = cs.length)
   (he : ij P t = some (e, sz, by_)) (hz : zeroOf P e = some zs) (hzl : zs.length = sz) (hy : RV w m s.h (avm av0 m s.h) true yv y) (hsrc : ma s.h sz none y fun k ys => k = n2 ∧ ys = cs2)
   (hb : (n + n2) * by_ ≤ 140737488355328) (h63 : n + n2 ≤ 4611686018427387904) :
   ∃ v w' m', (Builtin.append_ #[t, t] ty #[xv, yv]).run P w = .ok v w' ∧
     ((Inv w0 m0 h0 av0 { s with h := s.h.set g (some (cs ++ cs2)) } a w' m' ∧ RV w' m' (s.h.set g (some (cs ++ cs2))) (avm av0 m' (s.h.set g (some (cs ++ cs2)))) true v (.osl g 0 (n + n2) sz)) ∨
      (Inv w0 m0 h0 av0 { s with h := s.h ++ [some (cs ++ cs2)] } a w' m' ∧ RV w' m' (s.h ++ [some (cs ++ cs2)]) (avm av0 m' (s.h ++ [some (cs ++ cs2)])) true v (.osl s.h.length 0 (n + n2) sz))) := by
 obtain ⟨i, h1, h2, rfl, rfl⟩ := gy he
 obtain ⟨i', z, h5, h6, rfl⟩ := jo hz
 rw [h2] at h5; simp at h5; subst h5
 have hzs : z.cells.size = i.size := by simpa using hzl
 cases hx with
 | osl id off n cap wd cs' hid hl hc hs =>
   have hcs : cs' = cs := by
     have := hid.1
     rw [hg] at this
     simpa using this.symm
   subst hcs
   obtain ⟨k2, ys, news, ⟨rfl, rfl⟩, hlen, hf, hl1, hl2, hone, hr⟩ := ak7 (P := P) I.rh hy hsrc
   obtain ⟨C, T, fr, hC, hfr, hCl, hCr⟩ := (I.rh.blk g cs' hid.1).cells hid.2
   have hrs : cz w (m g) = C.size := by simp [cz, hC]
   rw [hrs] at hs
   by_cases hroom : n + k2 ≤ cap
   · have hfit : 0 + n * i.size + news.length ≤ C.size := by
       rw [hl1]
       have : (n + k2) * i.size ≤ cap * i.size := Nat.mul_le_mul_right _ hroom
       rw [Nat.add_mul] at this
       omega
     have hrun := vg (P := P) (w := w) t t ty e i e h1 h1 h2 (m g) 0 n cap C T hC hfr yv k2 news (hlen w) (hf w (fun _ => rfl)) hone hroom hfit
     have hD : (C.toList.take (0 + n * i.size) ++ news ++ C.toList.drop (0 + n * i.size + news.length)).toArray.size = C.size := by simp; omega
     have hrow := sa (w := w) (m := m) (s := s) (av0 := av0) (cs := cs') (cs2 := ys) (olds := C.toList.take (0 + n * i.size)) (news := news) (by simp; omega) (by omega)
       (fun j hj => by
         have hj' : j < C.size := by omega
         have := hCr j hj
         rw [Array.getD_eq_getD_getElem?] at this
         rw [List.getD, List.getElem?_take_of_lt (by omega), Array.getElem?_toList]
         exact this) hr (C.toList.drop (0 + n * i.size + news.length)).toArray
     obtain ⟨J, _⟩ := I.setRow (cs' := cs' ++ ys) hid hC hfr hD (by simp) (by simp; omega) (fun j hj => by simpa using hrow j hj)
     refine ⟨_, _, _, hrun, .inl ⟨J, ?_⟩⟩
     have hmb : gr (cs' ++ ys) = false := nh (C := (C.toList.take (0 + n * i.size) ++ news ++ C.toList.drop (0 + n * i.size + news.length)).toArray) (fun j hj => by simpa using hrow j hj)
     refine .osl g 0 (n + k2) cap i.size (cs' ++ ys) ⟨by rw [List.getElem?_set_self (dy hid.1)], hmb⟩ (by simp; rw [hl2, Nat.add_mul]; omega) hroom ?_
     simp only [cz, setRow_heap w (m g) C _ T _ hC]
     omega
   · have hfit : Builtin.nextslicecap (n + k2) cap * i.bytes ≤ 281474976710656 := growslice_fits (by omega) hb
     have holds : (Builtin.firstCells i.size n (.slice (some ⟨m g, 0, none⟩) n cap)).run P w.drew = .ok (C.toList.take (n * i.size)).toArray w.drew := by
       refine run_firstCells_some w.drew i.size n ⟨m g, 0, none⟩ n cap _ (by simp; omega) (fun j v hj => ?_)
       have hlt : j < n * i.size := by
         have := (List.getElem?_eq_some_iff.1 hj).1
         simp at this; omega
       rw [List.getElem?_take_of_lt hlt, Array.getElem?_toList] at hj
       rw [Addr.add_lit, Nat.zero_add]
       exact (cell_of_row w (m g) j C T fr hC).trans hj
     have hrun := nt (P := P) (w := w) t t ty e i z e h1 h1 h2 h6 (some ⟨m g, 0, none⟩) n cap (C.toList.take (n * i.size)) yv k2 news (hlen w) (hf w.drew (fun _ => rfl)) holds (by omega) (by omega) hfit
     have ID := I.world (Ext.drew (fun _ => False) w)
     have hstep : ∀ {o : Bool} {v : Value} {x : V}, RV w m s.h (avm av0 m s.h) o v x → RV w.drew m s.h (avm av0 m s.h) o v x :=
       fun hx => RV.step (w := w) (w' := w.drew) (m := m) (m' := m) (h := s.h) (h' := s.h) (av := avm av0 m s.h) (av' := avm av0 m s.h) (fun b off v hb hc => ⟨hb, hc⟩) (fun id c hid => ⟨c, hid, Nat.le_refl _, rfl, Nat.le_refl _, rfl⟩) hx
     have hrow := sa (w := w) (m := m) (s := s) (av0 := av0) (cs := cs') (cs2 := ys) (olds := C.toList.take (n * i.size)) (news := news) (by simp; omega) (by omega)
       (fun j hj => by
         have hj' : j < C.size := by omega
         have := hCr j hj
         rw [Array.getD_eq_getD_getElem?] at this
         rw [List.getD, List.getElem?_take_of_lt (by omega), Array.getElem?_toList]
         exact this) hr (Builtin.zeroCells z.cells (grownCap w (n + k2) cap e - (n + k2)))
     obtain ⟨J, _⟩ := ID.alloc ((C.toList.take (n * i.size)).toArray ++ news.toArray ++ Builtin.zeroCells z.cells (grownCap w (n + k2) cap e - (n + k2))) e (cs' ++ ys) (by simp; omega) (fun j hj => hstep (hrow j hj))
     refine ⟨_, _, _, hrun, .inr ⟨J, ?_⟩⟩
     have hmb : gr (cs' ++ ys) = false := nh hrow
     have hge := grownCap_ge w (n + k2) cap e
     have hdrew : w.drew.heap.size = w.heap.size := rfl
     have := RV.osl (w := w.drew.alloc (.cells ((C.toList.take (n * i.size)).toArray ++ news.toArray ++ Builtin.zeroCells z.cells (grownCap w (n + k2) cap e - (n + k2))) e)) (m := ew m s.h.length w.drew.heap.size) (h := s.h ++ [some (cs' ++ ys)])
       (av := avm av0 (ew m s.h.length w.drew.heap.size) (s.h ++ [some (cs' ++ ys)])) s.h.length 0 (n + k2) (grownCap w (n + k2) cap e) i.size (cs' ++ ys) ⟨by simp, hmb⟩ (by simp; rw [hl2, Nat.add_mul]; omega) (by omega) (by
         rw [ec]
         simp only [cz, heap_alloc_new, Array.size_append, List.size_toArray, List.length_take, Array.length_toList, size_zeroCells, hzs, hl1]
         have e1 : min (n * i.size) C.size = n * i.size := by omega
         rw [e1, ← Nat.add_mul, ← Nat.add_mul, Nat.zero_add]
         exact Nat.mul_le_mul_right _ (by omega))
     rw [ec] at this
     simpa using this

theorem Inv.close {t t2 : List V} {h : Hp} {k : Nat} (I : Inv w0 m0 h0 av0 ⟨t, h, k⟩ a w m) (n : Nat) (hk : k ≤ n) (hn : n ≤ h.length) (gs : List (Nat × List V)) (hgs : ∀ p ∈ gs, n ≤ p.1 ∧ h[p.1]? = some (some p.2) ∧ p.2.all (cc 2) = true ∧ gr p.2 = false)
   (hnd : ∀ (i j : Nat) (p q : Nat × List V), gs[i]? = some p → gs[j]? = some q → i ≠ j → p.1 ≠ q.1) (hl : t2.length = t.length)
   (ht : ∀ i (hi : i < t.length) (hi' : i < t2.length), LeV (Lv.ren (bm n) 3 t[i]) t2[i] ∨ ∃ j p c d, gs[j]? = some p ∧ t[i] = .osl p.1 0 c d ∧ t2[i] = .osl (n + j) 0 c d) :
   ∃ m', Inv w0 m0 h0 av0 ⟨t2, cb n h ++ gs.map fun p => some p.2, k⟩ a w m' := by
 let m' : Nat → Nat := fun j => if j < n then m j else m ((gs[j - n]?).getD (0, [])).1
 have hcl : (cb n h).length = n := by simp [cb]; omega
 have hcase : ∀ (j : Nat) (c : List V), (cb n h ++ gs.map fun p => some p.2)[j]? = some (some c) → (j < n ∧ ∃ c0, h[j]? = some (some c0) ∧ c = c0.map (Lv.ren (bm n) 2)) ∨ (n ≤ j ∧ ∃ p, gs[j - n]? = some p ∧ c = p.2) := by
   intro j c hj
   rcases Nat.lt_or_ge j n with hlt | hge
   · rw [List.getElem?_append_left (by omega)] at hj
     simp only [cb, List.getElem?_map, List.getElem?_take_of_lt hlt] at hj
     cases h2 : h[j]? with
     | none => simp [h2] at hj
     | some b =>
       cases b with
       | none => simp [h2, db] at hj
       | some c0 => simp [h2, db] at hj; exact .inl ⟨hlt, c0, rfl, hj.symm⟩
   · rw [List.getElem?_append_right (by omega), hcl, List.getElem?_map] at hj
     cases h2 : gs[j - n]? with
     | none => simp [h2] at hj
     | some p => simp [h2] at hj; exact .inr ⟨hge, p, rfl, hj.symm⟩
 have hold : ∀ j, j < n → m' j = m j := fun j hj => if_pos hj
 have hnew : ∀ j p, n ≤ j → gs[j - n]? = some p → m' j = m p.1 := fun j p hj hp => by
   show (if j < n then _ else _) = _
   rw [if_neg (by omega), hp]; rfl
 have hmem : ∀ {j : Nat} {p : Nat × List V}, gs[j]? = some p → n ≤ p.1 ∧ h[p.1]? = some (some p.2) ∧ p.2.all (cc 2) = true ∧ gr p.2 = false := fun hp => hgs _ (List.mem_of_getElem? hp)
 have hown : ∀ b, own m' (cb n h ++ gs.map fun p => some p.2) b → own m h b := by
   rintro b ⟨j, c, h1, rfl⟩
   rcases hcase j c h1 with ⟨hlt, c0, h2, _⟩ | ⟨hge, p, h2, _⟩
   · exact ⟨j, c0, h2, (hold j hlt).symm⟩
   · exact ⟨p.1, p.2, (hmem h2).2.1, (hnew j p hge h2).symm⟩
 have hput : ∀ (j : Nat) (c : List V), j < n → h[j]? = some (some c) → (cb n h ++ gs.map fun p => some p.2)[j]? = some (some (c.map (Lv.ren (bm n) 2))) := by
   intro j c hlt hj
   rw [List.getElem?_append_left (by omega)]
   simp [cb, List.getElem?_take_of_lt hlt, hj, db]
 have hR : Ren w w m m' h (cb n h ++ gs.map fun p => some p.2) (avm av0 m h) (avm av0 m' (cb n h ++ gs.map fun p => some p.2)) (bm n) := by
   refine ⟨fun b off v hb hc => ⟨fun h => hb (h.imp (fun x => x) (hown b)), hc⟩, fun j c j' hj hf => ?_, fun j c c' hj hf => ?_⟩
   · unfold bm at hf
     split at hf
     · rename_i hlt; simp at hf; subst hf
       exact ⟨_, hput j c hlt hj, by simp, hold j hlt, Nat.le_refl _, du _ _ _⟩
     · cases hf
   · unfold bm at hf
     split at hf <;> cases hf
 have hro : ∀ {v : Value} {x : V}, cc 2 x = true → RV w m h (avm av0 m h) true v x → RV w m' (cb n h ++ gs.map fun p => some p.2) (avm av0 m' (cb n h ++ gs.map fun p => some p.2)) true v x := fun hx hv =>
   ((RV.cc 2 _ hx hv).v7 (fun b off u hb hc => ⟨fun h => hb (h.imp (fun x => x) (hown b)), hc⟩) rfl).rn
 refine ⟨m', ⟨fun i j ci cj h1 h2 he => ?_, fun j c h1 => .inr ⟨j, c, h1, rfl⟩, fun j c h1 => ?_⟩, by rw [I.size]; exact hl.symm, fun i hi => ?_, I.defers, I.ext, fun j c h1 => ?_, I.lt, I.lent, I.gl, I.k, ?_⟩
 · rcases hcase i ci h1 with ⟨l1, c0, g1, _⟩ | ⟨l1, p, g1, _⟩ <;> rcases hcase j cj h2 with ⟨l2, c1, g2, _⟩ | ⟨l2, q, g2, _⟩
   · rw [hold i l1, hold j l2] at he
     exact I.rh.inj i j c0 c1 g1 g2 he
   · rw [hold i l1, hnew j q l2 g2] at he
     have := I.rh.inj i q.1 c0 q.2 g1 (hmem g2).2.1 he
     have := (hmem g2).1
     omega
   · rw [hnew i p l1 g1, hold j l2] at he
     have := I.rh.inj p.1 j p.2 c1 (hmem g1).2.1 g2 he
     have := (hmem g1).1
     omega
   · rw [hnew i p l1 g1, hnew j q l2 g2] at he
     have h3 := I.rh.inj p.1 q.1 p.2 q.2 (hmem g1).2.1 (hmem g2).2.1 he
     by_cases e : i = j
     · exact e
     · exact absurd h3 (hnd (i - n) (j - n) p q g1 g2 (by omega))
 · rcases hcase j c h1 with ⟨l1, c0, g1, rfl⟩ | ⟨l1, p, g1, rfl⟩
   · rw [hold j l1]
     exact (I.rh.blk j c0 g1).map rfl (j1 _ 2) (fun v x hx => hx.ren hR 2)
   · rw [hnew j p l1 g1]
     have hpl := (hmem g1).2.2.1
     have hmb := (hmem g1).2.2.2
     rcases I.rh.blk p.1 p.2 (hmem g1).2.1 with ⟨C, T, fr, hC, hfr, hCl, hCr⟩ | ⟨E, c, es, g3, g4, g5⟩
     · exact .inl ⟨C, T, fr, hC, hfr, hCl, fun i hi => hro (List.all_eq_true.1 hpl _ (List.getElem_mem _)) (hCr i hi)⟩
     · rw [g4] at hmb
       cases hmb
 · have hi' : i < t.length := by rw [← hl]; exact hi
   rcases ht i hi' hi with hle | ⟨j, p, c, d, hp, e1, e2⟩
   · exact ((I.slots i hi').ren hR 3).le hle
   · have hx := I.slots i hi'
     dsimp only at hx ⊢
     rw [e1] at hx
     rw [e2]
     generalize a.tmps.getD i Go.undef = u at hx
     cases hx with
     | osl id off n' cap wd cs hid hl' hc hs =>
       have hj : (n + j) - n = j := by omega
       have hm := hnew (n + j) p (by omega) (by rw [hj]; exact hp)
       rw [← hm]
       have hcs : cs = p.2 := by
         have := (hmem hp).2.1
         rw [hid.1] at this
         simpa using this
       subst hcs
       refine .osl (n + j) 0 c cap d p.2 ⟨?_, hid.2⟩ hl' hc (by rw [hm]; exact hs)
       rw [List.getElem?_append_right (by omega), hcl, hj, List.getElem?_map, hp]
       rfl
 · rcases hcase j c h1 with ⟨l1, c0, g1, rfl⟩ | ⟨l1, p, g1, _⟩
   · rw [hold j l1, List.length_map]; exact I.ids j c0 g1
   · rw [hnew j p l1 g1]
     rcases I.ids p.1 p.2 (hmem g1).2.1 with ⟨g2, _⟩ | ⟨g2, g3⟩
     · have := (hmem g1).1
       have hk0 := I.k
       dsimp only at hk0
       omega
     · exact .inr ⟨by have hk0 := I.k; dsimp only at hk0; omega, g3⟩
 · have hk0 := I.k
   dsimp only at hk0 ⊢
   rw [List.length_append, hcl]
   omega
end
end Go.Lv
end
