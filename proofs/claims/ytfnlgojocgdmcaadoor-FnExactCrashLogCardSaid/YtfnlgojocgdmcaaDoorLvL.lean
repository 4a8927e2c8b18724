/-
  A region whose order is drawn, in the world. Conditions: the program follows every order (every checked program does).
-/
import Derived.Test.YtfnlgojocgdmcaaDoorLvK
set_option linter.unusedSimpArgs false
set_option linter.unusedVariables false
namespace Go.Lv

def tmpsOf (op : Op) : List Tmp := op.operands.toList.filterMap fun | .tmp t => some t | _ => none

theorem ev_congr {t t' : List V} {x : Operand} (h : ∀ u, x = .tmp u → t.getD u .undef = t'.getD u .undef) : ev t x = ev t' x := by
  cases x with
  | tmp u => exact h u rfl
  | _ => rfl

theorem gop_congr {P : Program} {h : Hp} {ρ ρ' : Operand → V} {op : Op} {K : V → Hp → Prop} (hr : ∀ x ∈ op.operands, ρ x = ρ' x) (hq : gop P h ρ op K) : gop P h ρ' op K := by
  cases op with
  | move x => have := hr x (by simp [Op.operands]); simpa [gop, qop, this] using hq
  | assign x => have := hr x (by simp [Op.operands]); simpa [gop, qop, this] using hq
  | pick c x y =>
    have h1 := hr c (by simp [Op.operands]); have h2 := hr x (by simp [Op.operands]); have h3 := hr y (by simp [Op.operands])
    simpa [gop, qop, h1, h2, h3] using hq
  | build t ps =>
    have : (ps.toList.map fun p => (p.1, ρ p.2)) = ps.toList.map fun p => (p.1, ρ' p.2) := List.map_congr_left fun p hp => by
      rw [hr p.2 (by simp [Op.operands]; exact ⟨p.1, by simpa using hp⟩)]
    simpa only [gop, this] using hq
  | buildSlice t n ps =>
    have : (ps.toList.map fun p => (p.1, ρ p.2)) = ps.toList.map fun p => (p.1, ρ' p.2) := List.map_congr_left fun p hp => by
      rw [hr p.2 (by simp [Op.operands]; exact ⟨p.1, by simpa using hp⟩)]
    simpa only [gop, this] using hq
  | alloc t => exact hq
  | box t x => have := hr x (by simp [Op.operands]); simp only [gop, this] at hq ⊢; exact hq
  | makeSlice t l c =>
    have h1 := hr l (by simp [Op.operands]); have h2 := hr c (by simp [Op.operands])
    simp only [gop, h1, h2] at hq ⊢
    exact hq
  | load t x => have := hr x (by simp [Op.operands]); simpa [gop, qop, this] using hq
  | nilCheck x => have := hr x (by simp [Op.operands]); simpa [gop, qop, this] using hq
  | binOp op t x y t' => have h1 := hr x (by simp [Op.operands]); have h2 := hr y (by simp [Op.operands]); simpa [gop, qop, h1, h2] using hq
  | unOp op t x => have := hr x (by simp [Op.operands]); cases op <;> simp only [gop, qop, this] at hq ⊢ <;> exact hq
  | convert s d x => have := hr x (by simp [Op.operands]); simpa [gop, this] using hq
  | makeFunc f x y =>
    have h1 : x.toList.map ρ = x.toList.map ρ' := List.map_congr_left fun p hp => hr p (by simp [Op.operands]; exact .inl (by simpa using hp))
    have h2 : y.toList.map ρ = y.toList.map ρ' := List.map_congr_left fun p hp => hr p (by simp [Op.operands]; exact .inr (by simpa using hp))
    simp only [gop, qop, h1, h2] at hq ⊢
    exact hq
  | slice t x lo hi mx =>
    have h1 := hr x (by simp [Op.operands])
    cases mx with
    | some _ => exact hq
    | none =>
      have h2 : lowOf ρ lo = lowOf ρ' lo := by
        cases lo with
        | none => rfl
        | some l => have := hr l (by simp [Op.operands]); simp [lowOf, this]
      have h3 : ∀ x l (K : V → Prop), sliceV P ρ t x l hi K = sliceV P ρ' t x l hi K := by
        intro x l K
        cases hi with
        | none => rfl
        | some u => have := hr u (by simp [Op.operands]); simp [sliceV, this]
      simp only [gop, qop, h1, h2] at hq ⊢
      split at hq
      · exact hq
      · rw [h3] at hq; exact hq
  | lookup t x y ok => have h1 := hr x (by simp [Op.operands]); have h2 := hr y (by simp [Op.operands]); simpa [gop, qop, h1, h2] using hq
  | fieldAddr t x f => have := hr x (by simp [Op.operands]); simpa [gop, qop, this] using hq
  | field t x f => have := hr x (by simp [Op.operands]); simpa [gop, qop, this] using hq
  | indexAddr t x i => have h1 := hr x (by simp [Op.operands]); have h2 := hr i (by simp [Op.operands]); simpa [gop, qop, h1, h2] using hq
  | index t x i => have h1 := hr x (by simp [Op.operands]); have h2 := hr i (by simp [Op.operands]); simpa [gop, qop, h1, h2] using hq
  | extract x i => have := hr x (by simp [Op.operands]); simpa [gop, qop, this] using hq
  | call c =>
    obtain ⟨cal, args, ts⟩ := c
    cases cal with
    | value f =>
      have h1 := hr f (by simp [Op.operands, Call.operands])
      have h2 : args.toList.map ρ = args.toList.map ρ' := List.map_congr_left fun p hp => hr p (by simp [Op.operands, Call.operands]; exact .inr (by simpa using hp))
      simp only [gop, h1, h2] at hq ⊢
      exact hq
    | invoke r s => exact hq
    | builtin b =>
      have h2 : ∀ p ∈ args.toList, ρ p = ρ' p := fun p hp => hr p (by simp [Op.operands, Call.operands]; simpa using hp)
      obtain ⟨l⟩ := args
      obtain ⟨ts⟩ := ts
      cases b <;> try exact hq
      case len =>
        match l, ts, hq, h2 with
        | [x], [t], hq, h2 => have := h2 x (by simp); simp only [gop, qop, this] at hq ⊢; exact hq
        | [], _, hq, _ => exact hq
        | [_], [], hq, _ => exact hq
        | [_], _ :: _ :: _, hq, _ => exact hq
        | _ :: _ :: _, _, hq, _ => exact hq
      case max =>
        match l, hq, h2 with
        | [x, y], hq, h2 => have e1 := h2 x (by simp); have e2 := h2 y (by simp); simp only [gop, qop, e1, e2] at hq ⊢; exact hq
        | [], hq, _ => exact hq
        | [_], hq, _ => exact hq
        | _ :: _ :: _ :: _, hq, _ => exact hq
      case min =>
        match l, hq, h2 with
        | [x, y], hq, h2 => have e1 := h2 x (by simp); have e2 := h2 y (by simp); simp only [gop, qop, e1, e2] at hq ⊢; exact hq
        | [], hq, _ => exact hq
        | [_], hq, _ => exact hq
        | _ :: _ :: _ :: _, hq, _ => exact hq
  | _ => exact hq

/-- A transformer that hands one value on. -/
def Det (F : (V → Prop) → Prop) : Prop := ∀ K, F K → ∃ x, K x ∧ F (fun y => y = x)

theorem Det.ret (x : V) : Det (fun K => K x) := fun _ hk => ⟨x, hk, rfl⟩
theorem Det.no : Det (fun _ => False) := fun _ hk => hk.elim
theorem Det.and {A : Prop} {F : (V → Prop) → Prop} (h : Det F) : Det (fun K => A ∧ F K) := fun K ⟨ha, hk⟩ => let ⟨x, h1, h2⟩ := h K hk; ⟨x, h1, ha, h2⟩
theorem Det.ex {A : Prop} {F : A → (V → Prop) → Prop} (h : ∀ a, Det (F a)) : Det (fun K => ∃ a, F a K) := fun K ⟨a, hk⟩ => let ⟨x, h1, h2⟩ := h a K hk; ⟨x, h1, a, h2⟩

theorem det_atInt {x : V} {F : IntKind → Int → (V → Prop) → Prop} (h : ∀ k z, Det (F k z)) : Det (fun K => atInt x fun k z => F k z K) := by
  cases x with
  | int k z => exact h k z
  | _ => exact Det.no
theorem det_atBool {x : V} {F : Bool → (V → Prop) → Prop} (h : ∀ b, Det (F b)) : Det (fun K => atBool x fun b => F b K) := by
  cases x with
  | bool b => exact h b
  | _ => exact Det.no

theorem det_load (P : Program) (h : Hp) (t : TypeId) (x : V) : Det (loadV P h t x) := by
  unfold loadV
  cases tszOf P t with
  | none => exact Det.no
  | some p =>
    obtain ⟨sz, ag⟩ := p
    cases x with
    | pt cs => exact (Det.ret _).and.and
    | ptr id off =>
      dsimp only
      cases h[id]? with
      | none => exact Det.no
      | some b => cases b with
        | none => exact Det.no
        | some cs => exact (Det.ret _).and.and
    | _ => exact Det.no

theorem det_fieldAddr (P : Program) (s : TypeId) (f : Nat) (x : V) : Det (fieldAddrV P s f x) := by
  unfold fieldAddrV
  cases fdOf P s f with
  | none => exact Det.no
  | some p =>
    obtain ⟨o, sz, ag⟩ := p
    cases x with
    | pt cs => exact (Det.ret _).and
    | ptr id off => exact (Det.ret _).and
    | _ => exact Det.no.and

theorem det_field (P : Program) (s : TypeId) (f : Nat) (x : V) : Det (fieldV P s f x) := by
  unfold fieldV
  cases fdOf P s f with
  | none => exact Det.no
  | some p =>
    obtain ⟨o, sz, ag⟩ := p
    cases x with
    | agg cs => exact (Det.ret _).and.and
    | _ => exact Det.no

theorem det_indexAddr (P : Program) (t : TypeId) (x : V) (z : Int) : Det (indexAddrV P t x z) := by
  unfold indexAddrV
  cases x with
  | sl n w cs => dsimp only; cases elOf P t with
    | none => exact Det.no
    | some p => exact (Det.ret _).and.and
  | osl id off n w => dsimp only; cases elOf P t with
    | none => exact Det.no
    | some p => exact (Det.ret _).and.and
  | ptr id off => dsimp only; cases arOf P t with
    | none => exact Det.no
    | some p => exact (Det.ret _).and
  | pt cs => dsimp only; cases arOf P t with
    | none => exact Det.no
    | some p => exact (Det.ret _).and
  | _ => exact Det.no

theorem det_index (P : Program) (t : TypeId) (x : V) (z : Int) : Det (indexV P t x z) := by
  unfold indexV
  cases x with
  | str s => exact (Det.ex fun _ => Det.ret _).and
  | agg cs => dsimp only; cases arOf P t with
    | none => exact Det.no
    | some p => exact (Det.ret _).and.and.and
  | _ => exact Det.no

theorem det_slice (P : Program) (ρ : Operand → V) (t : TypeId) (x : V) (l : Int) (hi : Option Operand) : Det (sliceV P ρ t x l hi) := by
  unfold sliceV
  cases x with
  | sl n w cs => dsimp only; cases elOf P t with
    | none => exact Det.no
    | some p => cases hi with
      | none => exact (Det.ret _).and.and
      | some u => dsimp only; cases ρ u with
        | int k z => exact (Det.ret _).and.and
        | _ => exact Det.no
  | osl id off n w => dsimp only; cases elOf P t with
    | none => exact Det.no
    | some p => cases hi with
      | none => exact (Det.ret _).and.and
      | some u => dsimp only; cases ρ u with
        | int k z => exact (Det.ret _).and.and
        | _ => exact Det.no
  | str s => dsimp only; cases hi with
    | none => exact (Det.ret _).and.and
    | some u => dsimp only; cases ρ u with
      | int k z => exact (Det.ret _).and.and
      | _ => exact Det.no.and
  | _ => exact Det.no

theorem det_bin (P : Program) (op : BinOp) (t : TypeId) (x y : V) : Det (bin P op t x y) := by
  unfold bin
  cases x with
  | int k a => cases y with
    | int k' b => cases op <;> first | exact (Det.ret _).and | exact (Det.ret _).and.and | exact Det.no.and
    | _ => exact Det.no
  | str a => cases y with
    | str b => cases op <;> first | exact Det.ret _ | exact (Det.ret _).and | exact Det.no
    | _ => exact Det.no
  | bool a => cases y with
    | bool b => cases op <;> first | exact (Det.ret _).and | exact Det.no.and
    | _ => exact Det.no
  | agg a => cases y with
    | agg b =>
      dsimp only
      cases flatEq P t with
      | none => exact Det.no
      | some ds =>
        dsimp only
        cases eqL ds a b with
        | none => exact Det.no
        | some r => cases op <;> first | exact Det.ret _ | exact Det.no
    | _ => exact Det.no
  | _ => cases y <;> exact Det.no

theorem det_len (P : Program) (t : TypeId) (x : V) : Det (lenV P t x) := by
  unfold lenV
  cases x with
  | sl n w cs => exact (Det.ret _).and
  | osl id off n w => exact (Det.ret _).and
  | nilsl => exact (Det.ret _).and
  | str s => exact (Det.ret _).and
  | _ => exact Det.no

theorem det_conv (P : Program) (s d : TypeId) (x : V) : Det (convV P s d x) := by
  unfold convV
  cases x with
  | int k n => dsimp only; cases isIntT P d with
    | none => exact (Det.ret _).and.and
    | some k => exact (Det.ret _).and
  | str b => exact (Det.ret _).and.and
  | _ => exact Det.no.and

theorem det_convH (P : Program) (h : Hp) (s d : TypeId) (x : V) : Det (convH P h s d x) := by
  cases x with
  | osl id off n wd =>
    unfold convH
    dsimp only
    refine Det.and ?_
    cases h[id]? with
    | none => exact Det.no
    | some b => cases b with
      | none => exact Det.no
      | some cs =>
        dsimp only
        cases bytesL ((cs.drop off).take n) with
        | none => exact Det.no
        | some xs => exact Det.ret _
  | _ => unfold convH; exact det_conv P s d _

theorem det_nil (x : V) : Det (nilV x) := by
  unfold nilV
  cases x with
  | ptr id off => exact Det.ret _
  | pt cs => exact Det.ret _
  | fn f a c => cases f with
    | func g => exact Det.ret _
    | _ => exact Det.no
  | _ => exact Det.no

theorem det_lookup (P : Program) (h : Hp) (t : TypeId) (x y : V) (ok : Bool) : Det (lookupV P h t x y ok) := by
  intro K hq
  unfold lookupV at hq ⊢
  split at hq
  · split at hq
    · split at hq
      · obtain ⟨h0, hq⟩ := hq
        split at hq
        · exact ⟨_, hq, h0, rfl⟩
        · exact ⟨_, hq, h0, rfl⟩
        · exact hq.elim
      · exact hq.elim
    · exact hq.elim
  · exact hq.elim

theorem det_atTup (x : V) (i : Nat) : Det (atTup x i) := by
  unfold atTup
  cases x with
  | tup vs => dsimp only; cases vs[i]? with
    | none => exact Det.no
    | some v => exact Det.ret _
  | _ => exact Det.no

theorem det_build (P : Program) (t : TypeId) (parts : List (Nat × V)) : Det (buildV P t parts) := by
  unfold buildV
  cases zeroOf P t with
  | none => exact Det.no
  | some zs => cases plOf P t with
    | none => exact Det.no
    | some pl => dsimp only; cases fillV pl parts zs with
      | none => exact Det.no
      | some cs => exact Det.ret _

/-- A transformer that hands one value and one list of blocks on. -/
def Det2 (F : (V → Hp → Prop) → Prop) : Prop := ∀ K, F K → ∃ x n, K x n ∧ F (fun y m => y = x ∧ m = n)

theorem Det2.ret (x : V) (n : Hp) : Det2 (fun K => K x n) := fun _ hk => ⟨x, n, hk, rfl, rfl⟩
theorem Det2.no : Det2 (fun _ => False) := fun _ hk => hk.elim
theorem Det2.and {A : Prop} {F : (V → Hp → Prop) → Prop} (h : Det2 F) : Det2 (fun K => A ∧ F K) := fun K ⟨ha, hk⟩ => let ⟨x, n, h1, h2⟩ := h K hk; ⟨x, n, h1, ha, h2⟩
theorem Det2.of {F : (V → Prop) → Prop} (h : Det F) : Det2 (fun K => F fun v => K v []) := fun K hk => by
  obtain ⟨x, h1, h2⟩ := h _ hk
  refine ⟨x, [], h1, ?_⟩
  have e : (fun y => y = x) = fun y => y = x ∧ ([] : Hp) = [] := by funext y; simp
  show F fun y => y = x ∧ ([] : Hp) = []
  rw [← e]
  exact h2
theorem det2_atInt {x : V} {F : IntKind → Int → (V → Hp → Prop) → Prop} (h : ∀ k z, Det2 (F k z)) : Det2 (fun K => atInt x fun k z => F k z K) := by
  cases x with
  | int k z => exact h k z
  | _ => exact Det2.no

theorem det_call (P : Program) (h : Hp) (fv : V) (args : List V) (g : V → Hp → V) (g' : Hp → Hp) : Det2 (fun K => callA P h fv args fun r hout => K (g r hout) (g' hout)) := by
  intro K hq
  cases fv with
  | fn f a c => cases f with
    | func g' =>
      obtain ⟨as', r, hout, h1, h2, h3, h4⟩ := hq
      exact ⟨_, _, h4, as', r, hout, h1, h2, h3, rfl, rfl⟩
    | _ => exact False.elim hq
  | _ => exact False.elim hq

theorem qop_det (P : Program) (h : Hp) (ρ : Operand → V) (op : Op) : Det (qop P h ρ op) := by
  unfold qop
  split
  · exact Det.ret _
  · exact Det.ret _
  · exact det_atBool fun b => Det.ret _
  · exact det_load _ _ _ _
  · exact det_fieldAddr _ _ _ _
  · exact det_field _ _ _ _
  · exact det_atInt fun _ z => det_indexAddr _ _ _ _
  · exact det_atInt fun _ z => det_index _ _ _ _
  · rename_i t x lo hi
    cases lowOf ρ lo with
    | none => exact Det.no
    | some l => exact det_slice _ _ _ _ _ _
  · exact det_bin _ _ _ _ _
  · exact det_atBool fun b => Det.ret _
  · exact det_atInt fun _ z => Det.ret _
  · exact det_convH _ _ _ _ _
  · exact det_atTup _ _
  · exact det_nil _
  · exact det_lookup _ _ _ _ _ _
  · exact Det.ret _
  · exact det_len _ _ _
  · exact det_atInt fun _ z => det_atInt fun _ z => Det.ret _
  · exact det_atInt fun _ z => det_atInt fun _ z => Det.ret _
  · exact Det.no

theorem det_convG (P : Program) (h : Hp) (sT d : TypeId) (x : V) : Det2 (convG P h sT d x) := by
  have hq : ∀ y, Det2 (fun K : V → Hp → Prop => convH P h sT d y fun v => K v []) := fun y => Det2.of (det_convH P h sT d y)
  cases x with
  | str b =>
    show Det2 fun K => convB (isU8S P d) _ _
    cases isU8S P d with
    | true => exact (Det2.ret _ _).and
    | false => exact hq (.str b)
  | _ => (unfold convG; exact hq _)

theorem gop_det (P : Program) (h : Hp) (ρ : Operand → V) (op : Op) : Det2 (gop P h ρ op) := by
  unfold gop
  split
  · rename_i t
    cases zeroOf P t with
    | none => exact Det2.no
    | some zs => exact Det2.ret _ _
  · rename_i t x
    cases cellsOf (ρ x) with
    | none => exact Det2.no
    | some cs => exact Det2.ret _ _
  · exact Det2.of (det_build _ _ _)
  · rename_i t n parts
    cases elOf P t with
    | none => exact Det2.no
    | some p =>
      dsimp only
      cases zeroOf P p.1 with
      | none => exact Det2.no
      | some zs =>
        dsimp only
        cases seqV p.2.1 0 (parts.toList.map fun p => (p.1, ρ p.2)) with
        | none => exact Det2.no
        | some cs => exact (Det2.ret _ _).and.and.and
  · rename_i t l c
    refine det2_atInt fun _ n => det2_atInt fun _ n' => Det2.and ?_
    cases elOf P t with
    | none => exact Det2.no
    | some p =>
      dsimp only
      cases zeroOf P p.1 with
      | none => exact Det2.no
      | some zs => exact (Det2.ret _ _).and.and.and
  · exact (det_call _ _ _ _ _ _).and
  · exact det_convG _ _ _ _ _
  · exact Det2.of (qop_det _ _ _ _)

end Go.Lv
