/- DiagramSmall returns true, whatever memory it is called in; the two package variables that it reads hold what the program's text lays. This text: the executor that the proof uses, and its soundness. -/
import Derived.Test.YtdnamglihacbcaaGreatDoorS0
import Derived.Orders
-- Sp.OpSim
/-! One operation, here and there. -/
namespace Go.Sp
noncomputable section

section
variable {P : Program} {V : View} (hV : ∀ t tv, V.ty.get t = some tv → TyOk P t tv) {ok : FuncId → Nat → Code → Prop} {β : Ren} {H : Heap} {w : World} {base : Nat}

theorem guard_scalar (op : BinOp) (t : TypeId) (p q : Operand) {a b : Value} (h : (∃ k n m k', a = .int k n ∧ b = .int k' m) ∨ ∃ s u, a = .string s ∧ b = .string u) : (eqGuard op t p q a b).run P w = .ok () w := by
  rcases h with ⟨k, n, m, k', rfl, rfl⟩ | ⟨s, u, rfl, rfl⟩ <;> cases op <;> simp [eqGuard]
theorem guard_other (op : BinOp) (t : TypeId) (p q : Operand) (a b : Value) (h : op ≠ .eql ∧ op ≠ .neq) : (eqGuard op t p q a b).run P w = .ok () w := by
  cases op <;> first | exact absurd rfl h.1 | exact absurd rfl h.2 | simp [eqGuard]

include hV in
theorem sim_binOp {op : BinOp} {t : TypeId} {x y x' y' v : Value} (e : V.binOp op t x y = some v) (hx : VRel β x x') (hy : VRel β y y') (p q : Operand) :
    (do eqGuard op t p q x' y'; binOp op t x' y' : Sem Value).run P w = .ok v w ∧ VRel β v v := by
  unfold View.binOp at e
  split at e
  · rename_i k a k' b
    cases hx; cases hy
    simp only [Sem.run_bind, guard_scalar op t p q (.inl ⟨_, _, _, _, rfl, rfl⟩), Result.andThen_ok]
    split at e
    · exact sim_shift e t (.inl rfl)
    · exact sim_shift e t (.inr rfl)
    · rename_i h1 h2
      split at e
      · rename_i hk
        have := of_decide_eq_true hk; subst this
        exact sim_intOp e ⟨fun h => h1 h, fun h => h2 h⟩ t
      · cases e
  · rename_i a b
    cases hx; cases hy
    simp only [Sem.run_bind, guard_scalar op t p q (.inr ⟨_, _, rfl, rfl⟩), Result.andThen_ok]
    refine sim_stringOp e t ⟨?_, ?_⟩ <;> (rintro rfl; cases e)
  · cases e
  · have h1 : ∀ k n k' m, x = .int k n → y = .int k' m → False := by assumption
    have h2 : ∀ s u, x = .string s → y = .string u → False := by assumption
    have h3 : x = .nilIface → False := by assumption
    split at e
    · split at e
      · rename_i b hb
        cases e
        have := sim_eql hV (w := w) hb hx hy (fun k n m ⟨h, k', h'⟩ => h1 _ _ _ _ h h') (fun s u ⟨h, h'⟩ => h2 _ _ h h') p q h3
        exact ⟨this.1, .bool _⟩
      · cases e
    · split at e
      · rename_i b hb
        cases e
        have := sim_eql hV (w := w) hb hx hy (fun k n m ⟨h, k', h'⟩ => h1 _ _ _ _ h h') (fun s u ⟨h, h'⟩ => h2 _ _ h h') p q h3
        exact ⟨this.2, .bool _⟩
      · cases e
    · cases e

theorem sim_unOp {op : UnOp} {x x' v : Value} (e : View.unOp op x = some v) (hx : VRel β x x') : (Op.unary op x').run P w = .ok v w ∧ VRel β v v := by
  unfold View.unOp at e
  split at e
  · cases hx; cases e; exact ⟨by simp [Op.unary, Op.intArith], .int _ _⟩
  · cases hx
    split at e
    · rename_i c hc; cases e
      exact ⟨wrap_bits _ _ _ _ _ hc, .int _ _⟩
    · cases e
  · cases hx; cases e; exact ⟨by simp [Op.unary], .bool _⟩
  · cases e

include hV in
theorem sim_convert {s d : TypeId} {x x' v : Value} (e : V.convert d x = some v) (hx : VRel β x x') (hs : ∃ ds, P.underlying s = some ds) : (Go.convert s d x').run P w = .ok v w ∧ VRel β v v := by
  obtain ⟨ds, hs⟩ := hs
  unfold View.convert at e
  split at e
  · cases e
  · rename_i tv ht
    have hu := (hV d tv ht).under
    unfold Go.convert
    split at e
    · rename_i k k2 n hd
      cases hx; cases e
      rw [hd] at hu
      refine ⟨?_, .int _ _⟩
      simp only [Sem.run_bind, run_underlying hs, run_underlying hu, Result.andThen_ok]
      cases ds <;> rfl
    · rename_i s2 hd
      cases hx; cases e
      rw [hd] at hu
      refine ⟨?_, .string _⟩
      simp only [Sem.run_bind, run_underlying hs, run_underlying hu, Result.andThen_ok]
      cases ds <;> rfl
    · cases e

theorem optRel_map {ρ ρ' : Operand → Value} {x : Option Operand} (h : ∀ y, x = some y → VRel β (ρ y) (ρ' y)) : optRel β (x.map ρ) (x.map ρ') := by
  cases x with
  | none => trivial
  | some y => exact h y rfl

theorem args_rel {ρ ρ' : Operand → Value} (l : Array Operand) (h : ∀ x, x ∈ l.toList → VRel β (ρ x) (ρ' x)) : LRel β (l.toList.map ρ) (l.map ρ').toList := by
  rw [Array.toList_map]
  exact LRel.map _ _ _ h

theorem Gives.pure (h : HRel ok β H w base) {r : Result Next} {v v' : Value} (hr : r = .ok (.value v') w) (hv : VRel β v v') : Gives ok β H w base r v H :=
  ⟨β, w, v', .inl hr, h, hv, Post.refl _ _ _⟩

/-- What is asked of the types that an operation names. -/
def opTypes : Op → List TypeId
  | .convert s _ _ => [s]
  | .call c => match c.callee with | .builtin .clear => c.argTypes.toList | _ => []
  | _ => []

/-- The function that an operation makes a value of. -/
def opFn : Op → Option Fn
  | .makeFunc fn _ _ => some fn
  | _ => none

include hV in
theorem sim_op (h : HRel ok β H w base) {ρ ρ' : Operand → Value} {o : Oper} {v : Value} {H' : Heap} (e : V.op ρ H o.op = some (.val v H')) (hρ : ∀ x, x ∈ o.op.operands.toList → VRel β (ρ x) (ρ' x))
    (hts : ∀ t, t ∈ opTypes o.op → ∃ d, P.underlying t = some d) (hfn : ∀ fn, opFn o.op = some fn → FnRel β fn fn) : Gives ok β H w base ((execOp ρ' o).run P w) v H' := by
  obtain ⟨dst, op, ty, pos, after, guard⟩ := o
  simp only at e hρ hts hfn
  cases op <;> simp only [View.op] at e
  case move x => cases e; exact Gives.pure h rfl (hρ x (by simp [Op.operands]))
  case assign x => cases e; exact Gives.pure h rfl (hρ x (by simp [Op.operands]))
  case pick c a b =>
    have hc := hρ c (by simp [Op.operands])
    split at e
    · rename_i hcv
      cases e
      rw [hcv] at hc
      have hc' : ρ' c = .bool true := by cases hc' : ρ' c <;> rw [hc'] at hc <;> cases hc; rfl
      refine Gives.pure h (v' := ρ' a) ?_ (hρ a (by simp [Op.operands]))
      simp only [execOp, hc', asBool, Sem.run_bind, Sem.run_pure, Result.andThen_ok, if_true]
    · rename_i hcv
      cases e
      rw [hcv] at hc
      have hc' : ρ' c = .bool false := by cases hc' : ρ' c <;> rw [hc'] at hc <;> cases hc; rfl
      refine Gives.pure h (v' := ρ' b) ?_ (hρ b (by simp [Op.operands]))
      simp only [execOp, hc', asBool, Sem.run_bind, Sem.run_pure, Result.andThen_ok, Bool.false_eq_true, if_false]
    · cases e
  case alloc el =>
    split at e
    · rename_i ev hev
      cases e
      have hz := (VRel.plain (β := β) 10 _ (hV el ev hev).zero).cells
      obtain ⟨a, b, d⟩ := sim_newRow h 0 hz el
      refine ⟨_, _, .pointer (some ⟨w.heap.size, 0, none⟩), .inl ?_, a, .ptr d, b⟩
      simp only [execOp, Instr.alloc, Sem.run_bind, ty_zero hV w hev, Result.andThen_ok, newVar, newRow, run_newObj, Sem.run_pure]
      rfl
    · cases e
  case box el x =>
    cases e
    have hz := (hρ x (by simp [Op.operands])).cells
    obtain ⟨a, b, d⟩ := sim_newRow h 0 hz el
    refine ⟨_, _, .pointer (some ⟨w.heap.size, 0, none⟩), .inl ?_, a, .ptr d, b⟩
    simp only [execOp, Instr.box, newVar, newRow, Sem.run_bind, run_newObj, Result.andThen_ok, Sem.run_pure]
    rfl
  case build t ps =>
    unfold View.value at e
    split at e
    · rename_i x hx
      cases e
      have hp := PRel.map (β := β) ps ρ ρ' (fun x hx => hρ x (by simpa [Op.operands] using hx))
      obtain ⟨v', h1, h2⟩ := sim_build hV (w := w) hx hp
      refine Gives.pure h (v' := v') ?_ h2
      have h1' : (Instr.build t (ps.map fun p => (p.1, ρ' p.2))).run P w = .ok v' w := h1
      simp only [execOp, Sem.run_bind, h1', Result.andThen_ok, Sem.run_pure]
    · cases e
  case buildSlice t n ps =>
    unfold View.both at e
    split at e
    · rename_i x H2 hx
      cases e
      have hp := PRel.map (β := β) ps ρ ρ' (fun x hx => hρ x (by simpa [Op.operands] using hx))
      obtain ⟨β', w', v', h1, h2, h3, h4⟩ := sim_buildSlice hV h hx hp
      have h1' : (Instr.buildSlice t n (ps.map fun p => (p.1, ρ' p.2))).run P w = .ok v' w' := h1
      exact ⟨β', w', v', .inl (by simp only [execOp, Sem.run_bind, h1', Result.andThen_ok, Sem.run_pure]), h2, h3, h4⟩
    · cases e
  case insert t m k x =>
    unfold View.quiet at e
    split at e
    · rename_i H2 hx
      cases e
      obtain ⟨w', h1, h2, h3⟩ := sim_mapUpdate hV h hx (hρ m (by simp [Op.operands])) (hρ k (by simp [Op.operands])) (hρ x (by simp [Op.operands]))
      exact ⟨β, w', undef, .inr ⟨by simp only [execOp, Sem.run_bind, h1, Result.andThen_ok, Sem.run_pure], rfl⟩, h2, VRel.undef _, h3⟩
    · cases e
  case load t a =>
    split at e
    · rename_i ad had
      unfold View.value at e
      split at e
      · rename_i x hx
        cases e
        have ha := hρ a (by simp [Op.operands])
        rw [had] at ha
        obtain ⟨b, o, sp⟩ := ad
        obtain ⟨rfl, u, hb, ha'⟩ := ha.ptr_inv
        obtain ⟨v', h1, h2⟩ := sim_loadVar hV w h hx hb
        refine Gives.pure h (v' := v') ?_ h2
        simp only [execOp, Instr.loadAt, ha', Instr.sureAddr, Sem.run_bind, Sem.run_pure, Result.andThen_ok, h1]
      · cases e
    · cases e
  case store t a x =>
    split at e
    · rename_i ad had
      unfold View.quiet at e
      split at e
      · rename_i H2 hx
        cases e
        have ha := hρ a (by simp [Op.operands])
        rw [had] at ha
        obtain ⟨b, o, sp⟩ := ad
        obtain ⟨rfl, u, hb, ha'⟩ := ha.ptr_inv
        obtain ⟨w', h1, h2, h3, _⟩ := sim_storeVar hV h hx (hρ x (by simp [Op.operands])) hb
        refine ⟨β, w', undef, .inr ⟨?_, rfl⟩, h2, VRel.undef _, h3⟩
        simp only [execOp, Instr.storeAt, ha', Instr.sureAddr, Sem.run_bind, Sem.run_pure, Result.andThen_ok, h1]
      · cases e
    · cases e
  case ready g => cases e
  case waits g => cases e
  case nilCheck x =>
    split at e
    · rename_i ad had
      cases e
      have ha := hρ x (by simp [Op.operands])
      rw [had] at ha
      obtain ⟨b, o, sp⟩ := ad
      have ha2 := ha
      obtain ⟨rfl, u, hb, ha'⟩ := ha.ptr_inv
      refine Gives.pure h (v' := ρ' x) ?_ ha2
      simp only [execOp, ha', Sem.run_pure]
    · cases e
  case binOp op t x y yt =>
    unfold View.value at e
    split at e
    · rename_i z hz
      cases e
      obtain ⟨h1, h2⟩ := sim_binOp hV (w := w) hz (hρ x (by simp [Op.operands])) (hρ y (by simp [Op.operands])) x y
      refine Gives.pure h (v' := v) ?_ h2
      simp only [execOp]
      rw [Sem.run_bind, h1]
      rfl
    · cases e
  case unOp op t x =>
    unfold View.value at e
    split at e
    · rename_i z hz
      cases e
      obtain ⟨h1, h2⟩ := sim_unOp (P := P) (w := w) hz (hρ x (by simp [Op.operands]))
      refine Gives.pure h (v' := v) ?_ h2
      simp only [execOp, Sem.run_bind, h1, Result.andThen_ok, Sem.run_pure]
    · cases e
  case convert s d x =>
    unfold View.value at e
    split at e
    · rename_i z hz
      cases e
      obtain ⟨h1, h2⟩ := sim_convert hV (w := w) (s := s) hz (hρ x (by simp [Op.operands])) (hts s (by simp [opTypes]))
      refine Gives.pure h (v' := v) ?_ h2
      simp only [execOp, Sem.run_bind, h1, Result.andThen_ok, Sem.run_pure]
    · cases e
  case sliceToArrayPointer => cases e
  case makeInterface => cases e
  case makeFunc fn first cap =>
    cases e
    have ha := (args_rel first (β := β) (ρ := ρ) (ρ' := ρ') (fun x hx => hρ x (by simp [Op.operands]; exact .inl (by simpa using hx))))
    have hc := (args_rel cap (β := β) (ρ := ρ) (ρ' := ρ') (fun x hx => hρ x (by simp [Op.operands]; exact .inr (by simpa using hx))))
    have ha2 := ha.to_arr
    have hc2 := hc.to_arr
    refine Gives.pure h (v' := .func fn (first.map ρ') (cap.map ρ')) ?_ ?_
    · simp only [execOp, Instr.makeFunc, Sem.run_bind, Sem.run_pure, Result.andThen_ok]
    · have e1 : (⟨first.toList.map ρ⟩ : Array Value) = first.map ρ := by apply Array.ext'; simp
      have e2 : (⟨cap.toList.map ρ⟩ : Array Value) = cap.map ρ := by apply Array.ext'; simp
      rw [e1] at ha2
      rw [e2] at hc2
      exact .func (hfn fn rfl) ha2.1 ha2.2 hc2.1 hc2.2
  case makeMap t r =>
    have key : HRel ok (β.with H.next ⟨w.heap.size, 0, 0, 0⟩) (H.push (.map true [] 0)) (w.alloc (.map #[] 0)) base ∧ Post β H w (β.with H.next ⟨w.heap.size, 0, 0, 0⟩) (H.push (.map true [] 0)) (w.alloc (.map #[] 0)) ∧
        VRel (β.with H.next ⟨w.heap.size, 0, 0, 0⟩) (.map (some H.next)) (.map (some w.heap.size)) :=
      ⟨h.push _ _ _ rfl (.map MRel.nil), Post.push h _ _ _ rfl, .map (Ren.with_same _ _ _)⟩
    cases r with
    | none =>
      simp only at e
      cases e
      refine ⟨_, _, _, .inl ?_, key.1, key.2.2, key.2.1⟩
      simp only [execOp, Instr.makeMap, Option.map_none, Sem.run_bind, Sem.run_pure, Result.andThen_ok, run_newObj]
      rfl
    | some x =>
      simp only at e
      split at e
      · rename_i hmt hx
        cases e
        have hu := map_under hV hmt
        have hx' := hρ x (by simp [Op.operands])
        rw [hx] at hx'
        have hx2 : ∃ k n, ρ' x = .int k n := by cases hh : ρ' x <;> rw [hh] at hx' <;> cases hx'; exact ⟨_, _, rfl⟩
        obtain ⟨k, n, hx2⟩ := hx2
        refine ⟨_, _, _, .inl ?_, key.1, key.2.2, key.2.1⟩
        simp only [execOp, Instr.makeMap, Option.map_some, hx2, Sem.run_bind, run_underlying hu, asInt, asIntOf, Sem.run_pure, Result.andThen_ok, run_newObj]
        rfl
      · cases e
  case makeChan => cases e
  case makeSlice t l c =>
    unfold View.both at e
    split at e
    · rename_i x H2 hx
      cases e
      obtain ⟨β', w', v', h1, h2, h3, h4⟩ := sim_makeSlice hV h hx (hρ l (by simp [Op.operands])) (hρ c (by simp [Op.operands]))
      exact ⟨β', w', v', .inl (by simp only [execOp, Sem.run_bind, h1, Result.andThen_ok, Sem.run_pure]), h2, h3, h4⟩
    · cases e
  case slice t x lo hi mx =>
    unfold View.value at e
    split at e
    · rename_i z hz
      cases e
      obtain ⟨v', h1, h2⟩ := sim_slice hV h hz (hρ x (by simp [Op.operands])) (optRel_map fun y hy => hρ y (by simp [Op.operands, hy])) (optRel_map fun y hy => hρ y (by simp [Op.operands, hy])) (optRel_map fun y hy => hρ y (by simp [Op.operands, hy]))
      refine Gives.pure h (v' := v') ?_ h2
      simp only [execOp, Sem.run_bind, h1, Result.andThen_ok, Sem.run_pure]
    · cases e
  case fieldAddr s x f =>
    unfold View.value at e
    split at e
    · rename_i z hz
      cases e
      obtain ⟨v', h1, h2⟩ := sim_fieldAddr hV (w := w) hz (hρ x (by simp [Op.operands]))
      refine Gives.pure h (v' := v') ?_ h2
      simp only [execOp, Sem.run_bind, h1, Result.andThen_ok, Sem.run_pure]
    · cases e
  case field s x f =>
    unfold View.value at e
    split at e
    · rename_i z hz
      cases e
      obtain ⟨v', h1, h2⟩ := sim_field hV (w := w) hz (hρ x (by simp [Op.operands]))
      refine Gives.pure h (v' := v') ?_ h2
      simp only [execOp, Sem.run_bind, h1, Result.andThen_ok, Sem.run_pure]
    · cases e
  case indexAddr t x i =>
    unfold View.value at e
    split at e
    · rename_i z hz
      cases e
      obtain ⟨v', h1, h2⟩ := sim_indexAddr hV (w := w) hz (hρ x (by simp [Op.operands])) (hρ i (by simp [Op.operands]))
      refine Gives.pure h (v' := v') ?_ h2
      simp only [execOp, Sem.run_bind, h1, Result.andThen_ok, Sem.run_pure]
    · cases e
  case index t x i =>
    unfold View.value at e
    split at e
    · rename_i z hz
      cases e
      obtain ⟨v', h1, h2⟩ := sim_index hV (w := w) hz (hρ x (by simp [Op.operands])) (hρ i (by simp [Op.operands]))
      refine Gives.pure h (v' := v') ?_ h2
      simp only [execOp, Sem.run_bind, h1, Result.andThen_ok, Sem.run_pure]
    · cases e
  case lookup t m k cok =>
    unfold View.value at e
    split at e
    · rename_i z hz
      cases e
      obtain ⟨v', h1, h2⟩ := sim_lookup hV h hz (hρ m (by simp [Op.operands])) (hρ k (by simp [Op.operands]))
      refine Gives.pure h (v' := v') ?_ h2
      simp only [execOp, Sem.run_bind, h1, Result.andThen_ok, Sem.run_pure]
    · cases e
  case mapUpdate t m k x =>
    unfold View.quiet at e
    split at e
    · rename_i H2 hx
      cases e
      obtain ⟨w', h1, h2, h3⟩ := sim_mapUpdate hV h hx (hρ m (by simp [Op.operands])) (hρ k (by simp [Op.operands])) (hρ x (by simp [Op.operands]))
      exact ⟨β, w', undef, .inr ⟨by simp only [execOp, Sem.run_bind, h1, Result.andThen_ok, Sem.run_pure], rfl⟩, h2, VRel.undef _, h3⟩
    · cases e
  case mapEntry t m k =>
    unfold View.both at e
    split at e
    · rename_i x H2 hx
      cases e
      obtain ⟨w', v', h1, h2, h3, h4⟩ := sim_mapEntry hV h hx (hρ m (by simp [Op.operands])) (hρ k (by simp [Op.operands]))
      exact ⟨β, w', v', .inl (by simp only [execOp, Sem.run_bind, h1, Result.andThen_ok, Sem.run_pure]), h2, h3, h4⟩
    · cases e
  case entryStore t m s x =>
    unfold View.quiet at e
    split at e
    · rename_i H2 hx
      cases e
      obtain ⟨w', h1, h2, h3⟩ := sim_entryStore (P := P) (t := t) h hx (hρ m (by simp [Op.operands])) (hρ s (by simp [Op.operands])) (hρ x (by simp [Op.operands]))
      exact ⟨β, w', undef, .inr ⟨by simp only [execOp, Sem.run_bind, h1, Result.andThen_ok, Sem.run_pure], rfl⟩, h2, VRel.undef _, h3⟩
    · cases e
  case range => cases e
  case next => cases e
  case entry => cases e
  case typeAssert => cases e
  case extract x i =>
    split at e
    · rename_i vs hvs
      unfold View.value at e
      split at e
      · rename_i z hz
        cases e
        have ha := hρ x (by simp [Op.operands])
        rw [hvs] at ha
        obtain ⟨vs', ha', hr⟩ := ha.tuple_inv
        obtain ⟨v', h1, h2⟩ := hr.arr3 i hz
        refine Gives.pure h (v' := v') ?_ h2
        simp only [execOp, ha', Instr.extract, h1, Sem.run_bind, Sem.run_pure, Result.andThen_ok]
      · cases e
    · cases e
  case call c =>
    obtain ⟨callee, args, argTypes⟩ := c
    cases callee with
    | value f => simp only [View.callValue] at e; split at e <;> first | (cases e; done) | (split at e <;> first | (cases e; done) | (split at e <;> first | (cases e; done) | (split at e <;> cases e)))
    | invoke r m => cases e
    | builtin b =>
      simp only at e
      have ha := args_rel args (β := β) (ρ := ρ) (ρ' := ρ') (fun x hx => hρ x (by simpa [Op.operands, Call.operands] using hx))
      have hu0 : b = .clear → ∀ t, argTypes[0]? = some t → ∃ d, P.underlying t = some d := by
        intro hb t ht
        subst hb
        exact hts t (by simp only [opTypes]; exact List.mem_of_getElem? (i := 0) (by simpa using ht))
      obtain ⟨β', w', v', h1, h2, h3, h4⟩ := sim_builtin hV h (ty := ty) (cs := args.map fun | .const _ => true | _ => false) e ha hu0
      refine ⟨β', w', v', .inl ?_, h2, h3, h4⟩
      simp only [execOp, resolve, Sem.run_bind, Sem.run_pure, Result.andThen_ok, invoke]
      exact h1
  case go => cases e
  case defer => cases e
  case panic => cases e
  case send => cases e
  case recv => cases e
  case select => cases e
end
end
end Go.Sp

-- Sp.Exec1
/-! The machine's steps, in a frame of any kind. -/
namespace Go.Sp
noncomputable section

/-- A frame at work. -/
def mkF (fn : FuncId) (tmps : Array Value) (todo : List Item) (ds : List Deferred) (ro : Option Nat) : Frame :=
  { fn, tmps, todo, defers := ds, mode := .run, kind := .normal, roundOf := ro }

theorem mkF_eval (fn : FuncId) (tmps : Array Value) (todo : List Item) (ds : List Deferred) (ro : Option Nat) (todo' : List Item) (ds' : List Deferred) (ro' : Option Nat) : (mkF fn tmps todo ds ro).eval = (mkF fn tmps todo' ds' ro').eval := by
  funext x; cases x <;> rfl

section
variable {P : Program} {fn : FuncId} {tmps : Array Value} {ds : List Deferred} {ro : Option Nat} {k : List Item} {cs : List Frame} {w : World}

theorem st_skip : step P (lone (mkF fn tmps (.code .skip :: k) ds ro) cs w) = .next (lone (mkF fn tmps k ds ro) cs w) := step_lone_go (by simp [stepG, stepG.exec, mkF])
theorem st_label {l : Nat} : step P (lone (mkF fn tmps (.code (.label l) :: k) ds ro) cs w) = .next (lone (mkF fn tmps k ds ro) cs w) := step_lone_go (by simp [stepG, stepG.exec, mkF])
theorem st_inBlock {i : Nat} : step P (lone (mkF fn tmps (.inBlock i :: k) ds ro) cs w) = .next (lone (mkF fn tmps k ds ro) cs w) := step_lone_go (by simp [stepG, stepG.exec, mkF])
theorem st_inScope {c : Code} : step P (lone (mkF fn tmps (.inScope c :: k) ds ro) cs w) = .next (lone (mkF fn tmps k ds ro) cs w) := step_lone_go (by simp [stepG, stepG.exec, mkF])
theorem st_seq {a b : Code} : step P (lone (mkF fn tmps (.code (.seq a b) :: k) ds ro) cs w) = .next (lone (mkF fn tmps (.code a :: .code b :: k) ds ro) cs w) := step_lone_go (by simp [stepG, stepG.exec, mkF])
theorem st_cond {c : Operand} {x y : Code} {t : Bool} (h : (mkF fn tmps [] [] none).eval c = .bool t) : step P (lone (mkF fn tmps (.code (.cond c x y) :: k) ds ro) cs w) = .next (lone (mkF fn tmps (.code (if t then x else y) :: k) ds ro) cs w) := by
  rw [mkF_eval fn tmps [] [] none (.code (.cond c x y) :: k) ds ro] at h
  exact step_lone_go (by simp only [mkF] at h; simp [stepG, stepG.exec, mkF, h])
theorem st_block {i : Nat} {c : Code} : step P (lone (mkF fn tmps (.code (.block i c) :: k) ds ro) cs w) = .next (lone (mkF fn tmps (.code c :: .inBlock i :: k) ds ro) cs w) := step_lone_go (by simp [stepG, stepG.exec, mkF])
theorem st_scope {c : Code} : step P (lone (mkF fn tmps (.code (.scope c) :: k) ds ro) cs w) = .next (lone (mkF fn tmps (.code c :: .inScope c :: k) ds ro) cs w) := step_lone_go (by simp [stepG, stepG.exec, mkF])
theorem st_loop {c : Code} : step P (lone (mkF fn tmps (.code (.loop c) :: k) ds ro) cs w) = .next (lone (mkF fn tmps (.code c :: .inLoop c :: k) ds ro) cs w) := step_lone_go (by simp [stepG, stepG.exec, mkF])
theorem st_inLoop {c : Code} : step P (lone (mkF fn tmps (.inLoop c :: k) ds ro) cs w) = .next (lone (mkF fn tmps (.code c :: .inLoop c :: k) ds ro) cs w) := step_lone_go (by simp [stepG, stepG.exec, mkF])
theorem st_exit {i : Nat} {k' : List Item} (h : exitTo i k = some k') : step P (lone (mkF fn tmps (.code (.exit i) :: k) ds ro) cs w) = .next (lone (mkF fn tmps k' ds ro) cs w) :=
  step_lone_go (by simp [stepG, stepG.exec, mkF, h])
theorem st_region {id : Nat} {ops : Array Oper} : step P (lone (mkF fn tmps (.code (.region id ops false) :: k) ds ro) cs w) = .next (lone (mkF fn tmps (.inRegion ops (List.range ops.size) :: k) ds ro) cs w) :=
  step_lone_go (by simp [stepG, stepG.exec, mkF])
theorem st_regionDraw {id : Nat} {ops : Array Oper} : step P (lone (mkF fn tmps (.code (.region id ops true) :: k) ds ro) cs w) =
    .next (lone (mkF fn tmps (.inRegion ops (Region.schedule (P.follows .mixedOrders) ops (w.tape w.drawn (.order fn id))) :: k) ds ro) cs w.drew) :=
  step_lone_go (by simp [stepG, stepG.exec, mkF, choose, Sem.run, Question.forced, Question.cut])
theorem st_regionEnd {ops : Array Oper} : step P (lone (mkF fn tmps (.inRegion ops [] :: k) ds ro) cs w) = .next (lone (mkF fn tmps k ds ro) cs w) :=
  step_lone_go (by simp [stepG, stepG.exec, mkF])
theorem st_ret : ro = none → step P (lone (mkF fn tmps (.code .ret :: k) ds ro) cs w) = .next (lone { mkF fn tmps (.code .ret :: k) ds ro with mode := .returning } cs w) := by
  rintro rfl
  exact step_lone_go (by simp [stepG, stepG.exec, mkF])
theorem st_end : ro = none → step P (lone (mkF fn tmps [] ds ro) cs w) = .next (lone { mkF fn tmps [] ds ro with mode := .returning } cs w) := by
  rintro rfl
  exact step_lone_go (by simp [stepG, stepG.exec, mkF])

/-- What an operation's destination becomes. -/
def dstTmps (tmps : Array Value) (dst : Option Tmp) (v : Value) : Array Value := match dst with
  | some d => tmps.setIfInBounds d v
  | none => tmps

theorem finish_op (ops : Array Oper) (i : Nat) (rest : List Nat) (o : Oper) (ho : ops[i]? = some o) (v : Value) :
    (mkF fn tmps (.inRegion ops (i :: rest) :: k) ds ro).finish v = mkF fn (dstTmps tmps o.dst v) (.inRegion ops rest :: k) ds ro := by
  cases h : o.dst <;> simp [Frame.finish, mkF, ho, h, dstTmps]

theorem st_opSkip {ops : Array Oper} {i : Nat} {rest : List Nat} {o : Oper} (ho : ops[i]? = some o) (hw : Region.wanted o (yielded ops tmps) = false) :
    step P (lone (mkF fn tmps (.inRegion ops (i :: rest) :: k) ds ro) cs w) = .next (lone (mkF fn (dstTmps tmps o.dst undef) (.inRegion ops rest :: k) ds ro) cs w) := by
  rw [← finish_op ops i rest o ho]
  exact step_lone_go (by simp only [mkF]; simp [stepG, stepG.exec, ho, hw])

/-- An operation that is no defer. -/
theorem stepG_op' {ops : Array Oper} {i : Nat} {rest : List Nat} {o : Oper} (ho : ops[i]? = some o) (hw : Region.wanted o (yielded ops tmps) = true) (hd : ∀ c, o.op ≠ .defer c) :
    stepG P true { frame := mkF fn tmps (.inRegion ops (i :: rest) :: k) ds ro, callers := cs, status := .running, dying := none } w =
      stepG.apply P true (mkF fn tmps (.inRegion ops (i :: rest) :: k) ds ro) cs none (execOp (mkF fn tmps [] [] none).eval o) w := by
  rw [mkF_eval fn tmps [] [] none (.inRegion ops (i :: rest) :: k) ds ro]
  simp only [mkF]
  cases ro with
  | none => simp [stepG, stepG.exec, stepG.oper, Frame.oper?, ho, hw]
  | some l =>
    simp [stepG, stepG.exec, stepG.oper, Frame.oper?, ho, hw]
    split
    · rename_i l' c h1 h2
      exact absurd h2 (hd c)
    · rfl

theorem st_opVal {ops : Array Oper} {i : Nat} {rest : List Nat} {o : Oper} (ho : ops[i]? = some o) (hw : Region.wanted o (yielded ops tmps) = true) (hd : ∀ c, o.op ≠ .defer c)
    {v : Value} {w' : World} (hr : (execOp (mkF fn tmps [] [] none).eval o).run P w = .ok (.value v) w' ∨ ((execOp (mkF fn tmps [] [] none).eval o).run P w = .ok .skip w' ∧ v = undef)) :
    step P (lone (mkF fn tmps (.inRegion ops (i :: rest) :: k) ds ro) cs w) = .next (lone (mkF fn (dstTmps tmps o.dst v) (.inRegion ops rest :: k) ds ro) cs w') := by
  rw [← finish_op ops i rest o ho]
  refine step_lone_go ?_
  rw [stepG_op' ho hw hd]
  rcases hr with hr | ⟨hr, rfl⟩ <;> simp [stepG.apply, hr]

theorem st_opEnter {ops : Array Oper} {i : Nat} {rest : List Nat} {o : Oper} (ho : ops[i]? = some o) (hw : Region.wanted o (yielded ops tmps) = true) (hd : ∀ c, o.op ≠ .defer c)
    {f : FuncId} {args : Array Value} {w' : World} (hr : (execOp (mkF fn tmps [] [] none).eval o).run P w = .ok (.enter f args) w') :
    step P (lone (mkF fn tmps (.inRegion ops (i :: rest) :: k) ds ro) cs w) = .next (lone (Frame.enter P f args .normal) (mkF fn tmps (.inRegion ops (i :: rest) :: k) ds ro :: cs) w') := by
  refine step_lone_go ?_
  rw [stepG_op' ho hw hd]
  simp only [mkF] at hr
  simp [stepG.apply, hr, mkF]

theorem st_opRound {ops : Array Oper} {i : Nat} {rest : List Nat} {o : Oper} (ho : ops[i]? = some o) (hw : Region.wanted o (yielded ops tmps) = true) (hd : ∀ c, o.op ≠ .defer c)
    {l : Nat} {f : FuncId} {tm : Array Value} {as b : Code} {w' : World} (hr : (execOp (mkF fn tmps [] [] none).eval o).run P w = .ok (.round l f tm as b) w') :
    step P (lone (mkF fn tmps (.inRegion ops (i :: rest) :: k) ds ro) cs w) = .next (lone (mkF f tm [.code as, .beginRound, .code b] [] (some l)) (mkF fn tmps (.inRegion ops (i :: rest) :: k) ds ro :: cs) w') := by
  refine step_lone_go ?_
  rw [stepG_op' ho hw hd]
  simp only [mkF] at hr
  simp [stepG.apply, hr, mkF, Frame.round]

theorem enter_eq (P : Program) (f : FuncId) (args : Array Value) (fnn : Func) (b : Code) (h : P.funcs[f]? = some fnn) (hb : fnn.body = some b) :
    Frame.enter P f args .normal = mkF f (args ++ Array.replicate (fnn.ntmps - args.size) undef) [.code b] [] none := by
  simp [Frame.enter, h, hb, mkF]
end

theorem exitTo_append_plain (i : Nat) (x : Item) (k : List Item) (h : ∀ j, x ≠ .inBlock j) : exitTo i (x :: k) = exitTo i k := by
  cases x <;> first | rfl | exact absurd rfl (h _)
end
end Go.Sp

-- Sp.Exec2
/-! Loops over functions; frames that return. -/
namespace Go.Sp
noncomputable section

/-- A mark among the deferred calls. -/
def dmark (r : Nat) : Deferred := { target := .collected r, args := #[] }

section
variable {P : Program} {fn : FuncId} {tmps : Array Value} {ds : List Deferred} {ro : Option Nat} {k : List Item} {cs : List Frame} {w : World}

theorem st_rangeFunc {f : Operand} {ps : Array Tmp} {as b : Code} {l : Nat} {mark : List Deferred} {w1 : World} {g : FuncId} {args : Array Value}
    (h1 : (Instr.enterLoop fn tmps ps as b ro).run P w = .ok (l, mark) w1)
    (h2 : (do let d ← resolve (mkF fn tmps [] [] none).eval { callee := .value f, args := #[.const (.func (.yield l) #[] #[])], argTypes := #[] } 0; invoke d.target d.args : Sem Next).run P w1 = .ok (.enter g args) w1) :
    step P (lone (mkF fn tmps (.code (.rangeFunc f ps as b) :: k) ds ro) cs w) = .next (lone (Frame.enter P g args .normal) (mkF fn tmps (.inRangeFunc l :: k) (mark ++ ds) ro :: cs) w1) := by
  refine step_lone_go ?_
  rw [mkF_eval fn tmps [] [] none (.inRangeFunc l :: k) (mark ++ ds) ro] at h2
  simp only [mkF] at h2 ⊢
  simp [stepG, stepG.exec, Sem.runT_eq, h1, stepG.apply, h2]

theorem finish_rangeFunc {l : Nat} (v : Value) : (mkF fn tmps (.inRangeFunc l :: k) ds ro).finish v = mkF fn tmps (.endRangeFunc l :: k) ds ro := rfl

theorem st_endRangeFunc {l : Nat} {jump : Option Code} {w' : World} (h : (Instr.endLoop l).run P w = .ok jump w') :
    step P (lone (mkF fn tmps (.endRangeFunc l :: k) ds ro) cs w) = .next (lone (mkF fn tmps ((jump.map Item.code).toList ++ k) ds ro) cs w') := by
  refine step_lone_go ?_
  simp only [mkF]
  simp [stepG, stepG.exec, Sem.runT_eq, h]

theorem st_beginRound {l : Nat} {w' : World} (h : (Instr.beginRound l).run P w = .ok () w') :
    step P (lone (mkF fn tmps (.beginRound :: k) ds (some l)) cs w) = .next (lone (mkF fn tmps k ds (some l)) cs w') := by
  refine step_lone_go ?_
  simp only [mkF]
  simp [stepG, stepG.exec, stepG.apply, Sem.runT_eq, h, Frame.finish]

theorem st_leaveEnd {l : Nat} {v : Value} {w' : World} {c : Frame} (h : (Instr.endRound l none).run P w = .ok v w') :
    step P (lone (mkF fn tmps [] ds (some l)) (c :: cs) w) = .next (lone (c.finish v) cs w') := by
  refine step_lone_go ?_
  simp only [mkF]
  simp [stepG, stepG.exec, Sem.runT_eq, h, doReturn]

theorem st_leaveRet {l : Nat} {v : Value} {w' : World} {c : Frame} (h : (Instr.endRound l (some .ret)).run P w = .ok v w') :
    step P (lone (mkF fn tmps (.code .ret :: k) ds (some l)) (c :: cs) w) = .next (lone (c.finish v) cs w') := by
  refine step_lone_go ?_
  simp only [mkF]
  simp [stepG, stepG.exec, Sem.runT_eq, h, doReturn]

theorem st_leaveExit {l i : Nat} {v : Value} {w' : World} {c : Frame} (he : exitTo i k = none) (h : (Instr.endRound l (some (.exit i))).run P w = .ok v w') :
    step P (lone (mkF fn tmps (.code (.exit i) :: k) ds (some l)) (c :: cs) w) = .next (lone (c.finish v) cs w') := by
  refine step_lone_go ?_
  simp only [mkF]
  simp [stepG, stepG.exec, Sem.runT_eq, h, doReturn, he]

/-- A frame that returns takes its marks off. -/
theorem st_unwind {r : Nat} {w' : World} (h : (Instr.takeDeferred r).run P w = .ok [] w') :
    step P (lone { mkF fn tmps k (dmark r :: ds) none with mode := .returning } cs w) = .next (lone { mkF fn tmps k ds none with mode := .returning } cs w') := by
  refine step_lone_go ?_
  simp only [mkF, dmark]
  simp [stepG, unwind, Sem.runT_eq, h]

theorem run_getLoop' {l : Nat} {L : Loop} (h : w.heap[l]? = some (.loop L)) : (Instr.getLoop l).run P w = .ok L w := by
  simp [Instr.getLoop, getObj, Sem.run, h]
theorem run_setLoop {l : Nat} {L : Loop} (x : Obj) (h : w.heap[l]? = some (.loop L)) : (setObj l x).run P w = .ok () (setObjW w l x) := by
  simp [setObj, Sem.run, h, setObjW]

theorem run_beginRound {l : Nat} {L : Loop} (h : w.heap[l]? = some (.loop L)) (hs : L.state = .ready) : (Instr.beginRound l).run P w = .ok () (setObjW w l (.loop { L with state := .busy })) := by
  simp only [Instr.beginRound, Sem.run_bind, run_getLoop' h, Result.andThen_ok, run_setLoop _ h, hs]
  rfl
theorem run_endRound {l : Nat} {L : Loop} (h : w.heap[l]? = some (.loop L)) (jump : Option Code) :
    (Instr.endRound l jump).run P w = .ok (.bool jump.isNone) (setObjW w l (.loop { L with state := if jump.isNone then .ready else .done, pending := jump })) := by
  simp only [Instr.endRound, Sem.run_bind, run_getLoop' h, Result.andThen_ok, run_setLoop _ h, Sem.run_pure]
theorem run_endLoop {l : Nat} {L : Loop} (h : w.heap[l]? = some (.loop L)) (hs : L.state ≠ .busy) : (Instr.endLoop l).run P w = .ok L.pending (setObjW w l (.loop { L with state := .exhausted })) := by
  have : (L.state == .busy) = false := by simpa using hs
  simp only [Instr.endLoop, Sem.run_bind, run_getLoop' h, Result.andThen_ok, this, Bool.false_eq_true, if_false, run_setLoop _ h, Sem.run_pure]
theorem run_takeDeferred {r : Nat} (h : w.heap[r]? = some (.deferred (some []))) : (Instr.takeDeferred r).run P w = .ok [] (setObjW w r (.deferred none)) := by
  simp [Instr.takeDeferred, getObj, setObj, Sem.run, h, setObjW]
theorem run_enterLoop_none {ps : Array Tmp} {as b : Code} : (Instr.enterLoop fn tmps ps as b none).run P w =
    .ok (w.heap.size + 1, [dmark w.heap.size]) ((w.alloc (.deferred (some []))).alloc (.loop { state := .ready, pending := none, fn, tmps, params := ps, assign := as, body := b, defers := w.heap.size })) := by
  simp only [Instr.enterLoop, Sem.run_bind, run_newObj, Result.andThen_ok, Sem.run_pure, dmark, Array.size_push]
  rfl
theorem run_enterLoop_some {l : Nat} {L : Loop} (h : w.heap[l]? = some (.loop L)) {ps : Array Tmp} {as b : Code} : (Instr.enterLoop fn tmps ps as b (some l)).run P w =
    .ok (w.heap.size, []) (w.alloc (.loop { state := .ready, pending := none, fn, tmps, params := ps, assign := as, body := b, defers := L.defers })) := by
  simp only [Instr.enterLoop, Sem.run_bind, run_getLoop' h, run_newObj, Result.andThen_ok, Sem.run_pure]
  rfl
theorem run_yield {l : Nat} {L : Loop} {args : Array Value} (h : w.heap[l]? = some (.loop L)) (hs : args.size = L.params.size) : (Instr.yield l args).run P w =
    .ok (.round l L.fn ((L.params.zip args).foldl (fun tmps (p : Tmp × Value) => tmps.setIfInBounds p.1 p.2) L.tmps) L.assign L.body) w := by
  simp only [Instr.yield, Sem.run_bind, run_getLoop' h, Result.andThen_ok, hs, ne_eq, not_true_eq_false, if_false, Sem.run_pure]
end
end
end Go.Sp

-- Sp.Sim1
/-! The simulation: what is claimed, and code. -/
namespace Go.Sp
noncomputable section

def okFn : Fn → Bool
  | .func _ | .via .. => true
  | _ => false

/-- What is asked of an operation. -/
structure OperOk (P : Program) (G : Nat) (o : Oper) : Prop where
  opnds : ∀ x, x ∈ o.op.operands.toList → okOperand G x = true
  types : ∀ t, t ∈ opTypes o.op → ∃ d, P.underlying t = some d
  fn : ∀ f, opFn o.op = some f → okFn f = true
  noDefer : ∀ c, o.op ≠ .defer c

/-- What is asked of code; Pl: of a region that draws its order. -/
def CodeOk (P : Program) (G : Nat) (Pl : FuncId → Nat → Array Oper → Prop) (fn : FuncId) : Code → Prop
  | .region id ops draw => (∀ (i : Nat) (o : Oper), ops[i]? = some o → OperOk P G o) ∧ (draw = true → Pl fn id ops)
  | .seq a b => CodeOk P G Pl fn a ∧ CodeOk P G Pl fn b
  | .cond c a b => okOperand G c = true ∧ CodeOk P G Pl fn a ∧ CodeOk P G Pl fn b
  | .block _ c | .loop c | .scope c => CodeOk P G Pl fn c
  | .rangeFunc f _ a b => okOperand G f = true ∧ CodeOk P G Pl fn a ∧ CodeOk P G Pl fn b
  | _ => True

def GRel (G : Nat) (β : Ren) : Prop := ∀ g, g < G → ∃ t, β g = some t ∧ t.blk = g ∧ t.delta = 0
theorem GRel.mono {G : Nat} {β β' : Ren} (h : β.le β') (g : GRel G β) : GRel G β' := fun i hi => let ⟨t, a, b⟩ := g i hi; ⟨t, h _ _ a, b⟩

def RoRel (β : Ren) : Option Nat → Option Nat → Prop
  | none, none => True
  | some l, some l' => ∃ t, β l = some t ∧ t.blk = l'
  | _, _ => False
theorem RoRel.mono {β β' : Ren} (h : β.le β') {a b : Option Nat} (r : RoRel β a b) : RoRel β' a b := by
  cases a <;> cases b <;> first | exact r | exact let ⟨t, x, y⟩ := r; ⟨t, h _ _ x, y⟩

structure DefsOk (rs : List Nat) (w : World) : Prop where
  nodup : rs.Nodup
  all : ∀ r, r ∈ rs → w.heap[r]? = some (.deferred (some []))

section
variable (P : Program) (V : View) (G : Nat) (Pl : FuncId → Nat → Array Oper → Prop)

abbrev okC : FuncId → Nat → Code → Prop := fun fn _ c => CodeOk P G Pl fn c

def FnRuns (f : FuncId) : Prop := ∀ args w, (callFunc f args).run P w = .ok (.enter f args) w

/-- A call that comes to an end. -/
def CallGives (β : Ren) (H : Heap) (w : World) (base : Nat) (f : FuncId) (args' : Array Value) (v : Value) (H' : Heap) : Prop :=
  ∃ β' w' v', HRel (okC P G Pl) β' H' w' base ∧ VRel β' v v' ∧ Post β H w β' H' w' ∧
    ∀ cs, ∃ fr, fr.leaving P w' (.returned v') ∧ fr.fn = f ∧ Steps P (lone (Frame.enter P f args' .normal) cs w) (lone fr cs w')

structure VOk : Prop where
  ty : ∀ t tv, V.ty.get t = some tv → TyOk P t tv
  fn : ∀ f fv, V.fn.get f = some fv → FnRuns P f ∧ CodeOk P G Pl f fv.body ∧ ∃ fnn, P.funcs[f]? = some fnn ∧ fnn.ntmps = fv.nt ∧ fnn.results.toList = fv.results ∧ fnn.body = some fv.body
  mixed : P.follows .mixedOrders = true
  ext : ∀ f g, V.ext f = some g → FnRuns P f ∧ ∀ args H v H', g args H = some (v, H') → ∀ β w base args', HRel (okC P G Pl) β H w base → GRel G β → LRel β args args'.toList →
    CallGives P G Pl β H w base f args' v H'

def Reach (fn : FuncId) (tmps' : Array Value) (rs' : List Nat) (ro' : Option Nat) (k : List Item) (cs : List Frame) (w' : World) (m : Machine) : AExit → Prop
  | .normal => Steps P m (lone (mkF fn tmps' k (rs'.map dmark) ro') cs w')
  | .exit i => ∃ k2, exitTo i k2 = exitTo i k ∧ Steps P m (lone (mkF fn tmps' (.code (.exit i) :: k2) (rs'.map dmark) ro') cs w')
  | .ret => ∃ k2, Steps P m (lone (mkF fn tmps' (.code .ret :: k2) (rs'.map dmark) ro') cs w')

/-- Code, or what is left of a region, from here on: 'its' are the items at the head. -/
def Goes (fn : FuncId) (nt : Nat) (ro' : Option Nat) (β : Ren) (H : Heap) (w : World) (base : Nat) (tmps : Array Value) (rs : List Nat) (its : Item) (x : AExit) (env' : T Value) (H' : Heap) : Prop :=
  ∃ β' w' tmps' rs', HRel (okC P G Pl) β' H' w' base ∧ ERel β' nt env' tmps' ∧ Post β H w β' H' w' ∧ DefsOk rs' w' ∧ (∀ r, r ∈ rs' → r ∈ rs ∨ w.heap.size ≤ r) ∧
    ∀ k cs, Reach P fn tmps' rs' ro' k cs w' (lone (mkF fn tmps (its :: k) (rs.map dmark) ro') cs w) x

def CodeSim (n : Nat) : Prop := ∀ fn nt ro c env H x env' H', run V n (.code fn nt ro c env) H = some (.code x env' H') →
  ∀ β w base tmps rs ro', HRel (okC P G Pl) β H w base → GRel G β → ERel β nt env tmps → RoRel β ro ro' → DefsOk rs w → CodeOk P G Pl fn c →
    Goes P G Pl fn nt ro' β H w base tmps rs (.code c) x env' H'

/-- A loop, at the head of a further round. -/
def LoopSim (n : Nat) : Prop := ∀ fn nt ro b env H x env' H', run V n (.code fn nt ro (.loop b) env) H = some (.code x env' H') →
  ∀ β w base tmps rs ro', HRel (okC P G Pl) β H w base → GRel G β → ERel β nt env tmps → RoRel β ro ro' → DefsOk rs w → CodeOk P G Pl fn b →
    Goes P G Pl fn nt ro' β H w base tmps rs (.inLoop b) x env' H'

def OpsSim (n : Nat) : Prop := ∀ fn nt ro all todo env H x env' H', run V n (.ops fn nt ro all todo env) H = some (.code x env' H') →
  ∀ β w base tmps rs ro' (ops : Array Oper) (is : List Nat), HRel (okC P G Pl) β H w base → GRel G β → ERel β nt env tmps → RoRel β ro ro' → DefsOk rs w →
    ops.toList = all → is.map (fun i => ops[i]?) = todo.map some → (∀ (i : Nat) (o : Oper), ops[i]? = some o → OperOk P G o) →
    Goes P G Pl fn nt ro' β H w base tmps rs (.inRegion ops is) x env' H'

def PlanSim (n : Nat) : Prop := ∀ fn nt ro id (ops : Array Oper) p env H x env' H', run V n (.plan fn nt ro H.next ops.toList p [⟨H.t, H.next + ops.size⟩] env) ⟨H.t, H.next + ops.size⟩ = some (.code x env' H') →
  (V.plan.get fn).bind (fun t => t.get id) = some p → Pl fn id ops →
  ∀ β w base tmps rs ro' (t : Nat), HRel (okC P G Pl) β H w base → GRel G β → ERel β nt env tmps → RoRel β ro ro' → DefsOk rs w → (∀ (i : Nat) (o : Oper), ops[i]? = some o → OperOk P G o) →
    Goes P G Pl fn nt ro' β H w base tmps rs (.inRegion ops (Region.linearise .any ops t)) x env' H'

def CallSim (n : Nat) : Prop := ∀ f args H v H', run V n (.call f args) H = some (.val v H') → FnRuns P f ∧
  ∀ β w base args', HRel (okC P G Pl) β H w base → GRel G β → LRel β args args'.toList → CallGives P G Pl β H w base f args' v H'

def YieldSim (n : Nat) : Prop := ∀ l args H v H', run V n (.yield l args) H = some (.val v H') →
  ∀ β w base args' t, HRel (okC P G Pl) β H w base → GRel G β → LRel β args args'.toList → β l = some t →
    ∃ f tm as b, (Instr.yield t.blk args').run P w = .ok (.round t.blk f tm as b) w ∧
    ∃ β' w' v', HRel (okC P G Pl) β' H' w' base ∧ VRel β' v v' ∧ Post β H w β' H' w' ∧
      ∀ c cs, Steps P (lone (mkF f tm [.code as, .beginRound, .code b] [] (some t.blk)) (c :: cs) w) (lone (c.finish v') cs w')
end

section
variable {P : Program} {V : View} {G : Nat} {Pl : FuncId → Nat → Array Oper → Prop}

theorem aside_keep {ok : FuncId → Nat → Code → Prop} {β β' : Ren} {H H' : Heap} {w w' : World} {base : Nat} (h : HRel ok β H w base) (p : Post β H w β' H' w') {r : Nat} {x : Option (List Deferred)}
    (hr : w.heap[r]? = some (.deferred x)) : w'.heap[r]? = some (.deferred x) := by
  rw [p.keep r (Array.getElem?_eq_some_iff.1 hr).1 ?_]
  · exact hr
  · intro b o t h1 _ h3 e
    obtain ⟨t', y, e1, e2, e3⟩ := h.live b o h1
    rw [h3] at e1; cases e1
    rw [e, hr] at e2; cases e2
    cases e3

theorem DefsOk.keep {ok : FuncId → Nat → Code → Prop} {β β' : Ren} {H H' : Heap} {w w' : World} {base : Nat} (h : HRel ok β H w base) (p : Post β H w β' H' w') {rs : List Nat} (d : DefsOk rs w) : DefsOk rs w' :=
  ⟨d.nodup, fun r hr => aside_keep h p (d.all r hr)⟩

theorem Reach.of_steps {fn : FuncId} {tmps' : Array Value} {rs' : List Nat} {ro' : Option Nat} {k : List Item} {cs : List Frame} {w' : World} {m m1 : Machine} {x : AExit} (h : Steps P m m1) (r : Reach P fn tmps' rs' ro' k cs w' m1 x) :
    Reach P fn tmps' rs' ro' k cs w' m x := by
  cases x with
  | normal => exact h.trans r
  | exit i => obtain ⟨k2, a, b⟩ := r; exact ⟨k2, a, h.trans b⟩
  | ret => obtain ⟨k2, b⟩ := r; exact ⟨k2, h.trans b⟩

/-- An operand, here and there. -/
theorem look_rel {β : Ren} {nt : Nat} {env : T Value} {tmps : Array Value} (hg : GRel G β) (he : ERel β nt env tmps) (fn : FuncId) {x : Operand} (hx : okOperand G x = true) : VRel β (look env x) ((mkF fn tmps [] [] none).eval x) := by
  cases x with
  | tmp t => exact he.all t
  | const v => exact VRel.plain 10 v hx
  | global g =>
    obtain ⟨t, h1, h2, h3⟩ := hg g (by simpa [okOperand] using hx)
    have := VRel.ptr (o := 0) h1
    rw [h2, h3] at this
    exact this
  | func f => exact .func (.func f) rfl (fun i h => by simp at h) rfl (fun i h => by simp at h)

/-- One piece of code behind another. -/
theorem Goes.seq {fn : FuncId} {nt : Nat} {ro' : Option Nat} {β : Ren} {H : Heap} {w : World} {base : Nat} {tmps : Array Value} {rs : List Nat} {it : Item} {env1 : T Value} {H1 : Heap} {x : AExit} {env' : T Value} {H' : Heap}
    (h : HRel (okC P G Pl) β H w base) (a : Goes P G Pl fn nt ro' β H w base tmps rs it .normal env1 H1) (it2 : Item)
    (b : ∀ β1 w1 tmps1 rs1, HRel (okC P G Pl) β1 H1 w1 base → β.le β1 → ERel β1 nt env1 tmps1 → DefsOk rs1 w1 → Goes P G Pl fn nt ro' β1 H1 w1 base tmps1 rs1 it2 x env' H') :
    ∃ β' w' tmps' rs', HRel (okC P G Pl) β' H' w' base ∧ ERel β' nt env' tmps' ∧ Post β H w β' H' w' ∧ DefsOk rs' w' ∧ (∀ r, r ∈ rs' → r ∈ rs ∨ w.heap.size ≤ r) ∧
      ∀ k cs, Reach P fn tmps' rs' ro' k cs w' (lone (mkF fn tmps (it :: it2 :: k) (rs.map dmark) ro') cs w) x := by
  obtain ⟨β1, w1, tmps1, rs1, a1, a2, a3, a4, a5, a6⟩ := a
  obtain ⟨β2, w2, tmps2, rs2, b1, b2, b3, b4, b5, b6⟩ := b β1 w1 tmps1 rs1 a1 a3.ext a2 a4
  refine ⟨β2, w2, tmps2, rs2, b1, b2, a3.trans h b3, b4, ?_, ?_⟩
  · intro r hr
    rcases b5 r hr with hr | hr
    · exact a5 r hr
    · exact .inr (Nat.le_trans a3.size hr)
  · intro k cs
    have := a6 (it2 :: k) cs
    exact Reach.of_steps this (b6 k cs)
end
end
end Go.Sp

-- Sp.Sim2
/-! The simulation of code. -/
namespace Go.Sp
noncomputable section

section
variable {P : Program} {V : View} {G : Nat} {Pl : FuncId → Nat → Array Oper → Prop}

/-- Nothing but a step to another item. -/
theorem Goes.step {fn : FuncId} {nt : Nat} {ro' : Option Nat} {β : Ren} {H : Heap} {w : World} {base : Nat} {tmps : Array Value} {rs : List Nat} {it it2 : Item} {x : AExit} {env' : T Value} {H' : Heap}
    (hs : ∀ k cs, step P (lone (mkF fn tmps (it :: k) (rs.map dmark) ro') cs w) = .next (lone (mkF fn tmps (it2 :: k) (rs.map dmark) ro') cs w))
    (g : Goes P G Pl fn nt ro' β H w base tmps rs it2 x env' H') : Goes P G Pl fn nt ro' β H w base tmps rs it x env' H' := by
  obtain ⟨β', w', tmps', rs', a1, a2, a3, a4, a5, a6⟩ := g
  exact ⟨β', w', tmps', rs', a1, a2, a3, a4, a5, fun k cs => Reach.of_steps (.one (hs k cs)) (a6 k cs)⟩

theorem Goes.now {fn : FuncId} {nt : Nat} {ro' : Option Nat} {β : Ren} {H : Heap} {w : World} {base : Nat} {tmps : Array Value} {rs : List Nat} {it : Item} {x : AExit} {env : T Value}
    (h : HRel (okC P G Pl) β H w base) (he : ERel β nt env tmps) (hd : DefsOk rs w)
    (hr : ∀ k cs, Reach P fn tmps rs ro' k cs w (lone (mkF fn tmps (it :: k) (rs.map dmark) ro') cs w) x) : Goes P G Pl fn nt ro' β H w base tmps rs it x env H :=
  ⟨β, w, tmps, rs, h, he, Post.refl _ _ _, hd, fun _ hr => .inl hr, hr⟩

theorem loopRound (n : Nat) (hC : CodeSim P V G Pl n) (hL : LoopSim P V G Pl n) {fn : FuncId} {nt : Nat} {ro ro' : Option Nat} {b : Code} {env env' : T Value} {H H' : Heap} {x : AExit}
    (hrun : run V (n + 1) (.code fn nt ro (.loop b) env) H = some (.code x env' H')) {β : Ren} {w : World} {base : Nat} {tmps : Array Value} {rs : List Nat}
    (h : HRel (okC P G Pl) β H w base) (hg : GRel G β) (he : ERel β nt env tmps) (hro : RoRel β ro ro') (hd : DefsOk rs w) (hc : CodeOk P G Pl fn b) :
    ∃ β' w' tmps' rs', HRel (okC P G Pl) β' H' w' base ∧ ERel β' nt env' tmps' ∧ Post β H w β' H' w' ∧ DefsOk rs' w' ∧ (∀ r, r ∈ rs' → r ∈ rs ∨ w.heap.size ≤ r) ∧
      ∀ k cs, Reach P fn tmps' rs' ro' k cs w' (lone (mkF fn tmps (.code b :: .inLoop b :: k) (rs.map dmark) ro') cs w) x := by
  simp only [run] at hrun
  split at hrun
  · rename_i env1 H1 hr1
    have g1 := hC fn nt ro b env H .normal env1 H1 hr1 β w base tmps rs ro' h hg he hro hd hc
    exact Goes.seq h g1 (.inLoop b) (fun β1 w1 tmps1 rs1 h1 hle he1 hd1 =>
      hL fn nt ro b env1 H1 x env' H' hrun β1 w1 base tmps1 rs1 ro' h1 (hg.mono hle) he1 (hro.mono hle) hd1 hc)
  · rename_i hne
    obtain ⟨β', w', tmps', rs', a1, a2, a3, a4, a5, a6⟩ := hC fn nt ro b env H x env' H' hrun β w base tmps rs ro' h hg he hro hd hc
    refine ⟨β', w', tmps', rs', a1, a2, a3, a4, a5, fun k cs => ?_⟩
    have := a6 (.inLoop b :: k) cs
    cases x with
    | normal => exact absurd hrun (hne _ _)
    | exit i =>
      obtain ⟨k2, e, s⟩ := this
      exact ⟨k2, e.trans (exitTo_append_plain i _ _ (by intro j; simp)), s⟩
    | ret => exact this

theorem loopSim (n : Nat) (hC : CodeSim P V G Pl n) (hL : LoopSim P V G Pl n) : LoopSim P V G Pl (n + 1) := by
  intro fn nt ro b env H x env' H' hrun β w base tmps rs ro' h hg he hro hd hc
  obtain ⟨β', w', tmps', rs', a1, a2, a3, a4, a5, a6⟩ := loopRound n hC hL hrun h hg he hro hd hc
  exact ⟨β', w', tmps', rs', a1, a2, a3, a4, a5, fun k cs => Reach.of_steps (.one st_inLoop) (a6 k cs)⟩

theorem codeSim (hV : VOk P V G Pl) (n : Nat) (hC : CodeSim P V G Pl n) (hL : LoopSim P V G Pl n) (hO : OpsSim P V G Pl n) (hP : PlanSim P V G Pl n)
    (hR : ∀ fn nt ro f ps as b env H x env' H', run V (n + 1) (.code fn nt ro (.rangeFunc f ps as b) env) H = some (.code x env' H') →
      ∀ β w base tmps rs ro', HRel (okC P G Pl) β H w base → GRel G β → ERel β nt env tmps → RoRel β ro ro' → DefsOk rs w → CodeOk P G Pl fn (.rangeFunc f ps as b) →
      Goes P G Pl fn nt ro' β H w base tmps rs (.code (.rangeFunc f ps as b)) x env' H') : CodeSim P V G Pl (n + 1) := by
  intro fn nt ro c env H x env' H' hrun β w base tmps rs ro' h hg he hro hd hc
  cases c with
  | skip =>
    simp only [run] at hrun; cases hrun
    exact Goes.now h he hd fun k cs => .one st_skip
  | label l =>
    simp only [run] at hrun; cases hrun
    exact Goes.now h he hd fun k cs => .one st_label
  | ret =>
    simp only [run] at hrun; cases hrun
    exact Goes.now h he hd fun k cs => ⟨k, .refl _ _⟩
  | exit i =>
    simp only [run] at hrun; cases hrun
    exact Goes.now h he hd fun k cs => ⟨k, rfl, .refl _ _⟩
  | goto l => simp [run] at hrun
  | refuse s => simp [run] at hrun
  | seq a b =>
    simp only [run] at hrun
    obtain ⟨ha, hb⟩ := hc
    split at hrun
    · rename_i env1 H1 hr1
      have g1 := hC fn nt ro a env H .normal env1 H1 hr1 β w base tmps rs ro' h hg he hro hd ha
      obtain ⟨β', w', tmps', rs', a1, a2, a3, a4, a5, a6⟩ := Goes.seq h g1 (.code b) (fun β1 w1 tmps1 rs1 h1 hle he1 hd1 =>
        hC fn nt ro b env1 H1 x env' H' hrun β1 w1 base tmps1 rs1 ro' h1 (hg.mono hle) he1 (hro.mono hle) hd1 hb)
      exact ⟨β', w', tmps', rs', a1, a2, a3, a4, a5, fun k cs => Reach.of_steps (.one st_seq) (a6 k cs)⟩
    · rename_i hne
      obtain ⟨β', w', tmps', rs', a1, a2, a3, a4, a5, a6⟩ := hC fn nt ro a env H x env' H' hrun β w base tmps rs ro' h hg he hro hd ha
      refine ⟨β', w', tmps', rs', a1, a2, a3, a4, a5, fun k cs => ?_⟩
      have := a6 (.code b :: k) cs
      cases x with
      | normal => exact absurd hrun (hne _ _)
      | exit i =>
        obtain ⟨k2, e, s⟩ := this
        exact ⟨k2, e.trans (exitTo_append_plain i _ _ (by intro j; simp)), .head st_seq s⟩
      | ret =>
        obtain ⟨k2, s⟩ := this
        exact ⟨k2, .head st_seq s⟩
  | cond c a b =>
    simp only [run] at hrun
    obtain ⟨hco, ha, hb⟩ := hc
    have hv := look_rel hg he fn hco
    split at hrun
    · rename_i hl
      rw [hl] at hv
      have hv' : (mkF fn tmps [] [] none).eval c = .bool true := by cases hh : (mkF fn tmps [] [] none).eval c <;> rw [hh] at hv <;> cases hv; rfl
      exact Goes.step (fun k cs => st_cond hv') (hC fn nt ro a env H x env' H' hrun β w base tmps rs ro' h hg he hro hd ha)
    · rename_i hl
      rw [hl] at hv
      have hv' : (mkF fn tmps [] [] none).eval c = .bool false := by cases hh : (mkF fn tmps [] [] none).eval c <;> rw [hh] at hv <;> cases hv; rfl
      exact Goes.step (fun k cs => st_cond hv') (hC fn nt ro b env H x env' H' hrun β w base tmps rs ro' h hg he hro hd hb)
    · cases hrun
  | block i b =>
    simp only [run] at hrun
    -- what the body comes to
    have fin : ∀ y env1 H1, run V n (.code fn nt ro b env) H = some (.code y env1 H1) → (∀ j, y = .exit j → (if i = j then x = .normal else x = .exit j)) → (y = .normal → x = .normal) → (y = .ret → x = .ret) → env1 = env' → H1 = H' →
        Goes P G Pl fn nt ro' β H w base tmps rs (.code (.block i b)) x env' H' := by
      intro y env1 H1 hy he1 he2 he3 e1 e2
      subst e1; subst e2
      obtain ⟨β', w', tmps', rs', a1, a2, a3, a4, a5, a6⟩ := hC fn nt ro b env H y env1 H1 hy β w base tmps rs ro' h hg he hro hd hc
      refine ⟨β', w', tmps', rs', a1, a2, a3, a4, a5, fun k cs => ?_⟩
      have := a6 (.inBlock i :: k) cs
      cases y with
      | normal => rw [he2 rfl]; exact .head st_block (this.trans (.one st_inBlock))
      | ret => rw [he3 rfl]; obtain ⟨k2, s⟩ := this; exact ⟨k2, .head st_block s⟩
      | exit j =>
        obtain ⟨k2, e, s⟩ := this
        have hx := he1 j rfl
        by_cases hij : i = j
        · rw [if_pos hij] at hx
          rw [hx]
          have : exitTo j k2 = some k := by rw [e]; simp [exitTo, hij]
          exact .head st_block (s.trans (.one (st_exit this)))
        · rw [if_neg hij] at hx
          rw [hx]
          refine ⟨k2, ?_, .head st_block s⟩
          rw [e]
          have : (i == j) = false := by simpa using hij
          simp [exitTo, this]
    split at hrun
    · rename_i j env1 H1 hy
      split at hrun
      · rename_i hij
        cases hrun
        have := beq_eq hij
        exact fin _ _ _ hy (fun j' hj => by cases hj; simp [this]) (fun h => by cases h) (fun h => by cases h) rfl rfl
      · rename_i hij
        cases hrun
        exact fin _ _ _ hy (fun j' hj => by
          cases hj
          have : ¬ i = j := fun h => by rw [h, beq_same] at hij; cases hij
          rw [if_neg this]) (fun h => by cases h) (fun h => by cases h) rfl rfl
    · rename_i hne
      exact fin x _ _ hrun (fun j hj => by subst hj; exact absurd hrun (hne _ _ _)) (fun h => h) (fun h => h) rfl rfl
  | scope b =>
    simp only [run] at hrun
    obtain ⟨β', w', tmps', rs', a1, a2, a3, a4, a5, a6⟩ := hC fn nt ro b env H x env' H' hrun β w base tmps rs ro' h hg he hro hd hc
    refine ⟨β', w', tmps', rs', a1, a2, a3, a4, a5, fun k cs => ?_⟩
    have := a6 (.inScope b :: k) cs
    cases x with
    | normal => exact .head st_scope (this.trans (.one st_inScope))
    | exit i =>
      obtain ⟨k2, e, s⟩ := this
      exact ⟨k2, e.trans (exitTo_append_plain i _ _ (by intro j; simp)), .head st_scope s⟩
    | ret => obtain ⟨k2, s⟩ := this; exact ⟨k2, .head st_scope s⟩
  | loop b =>
    obtain ⟨β', w', tmps', rs', a1, a2, a3, a4, a5, a6⟩ := loopRound n hC hL hrun h hg he hro hd hc
    exact ⟨β', w', tmps', rs', a1, a2, a3, a4, a5, fun k cs => Reach.of_steps (.one st_loop) (a6 k cs)⟩
  | region id ops draw =>
    simp only [run] at hrun
    obtain ⟨hops, hdr⟩ := hc
    split at hrun
    · have g := hO fn nt ro ops.toList ops.toList env H x env' H' hrun β w base tmps rs ro' ops (List.range ops.size) h hg he hro hd rfl (by
        apply List.ext_getElem?
        intro i
        simp only [List.getElem?_map]
        by_cases hi : i < ops.size
        · simp [hi]
        · simp [hi]) hops
      exact Goes.step (fun k cs => st_region) g
    · split at hrun
      · rename_i t ht
        split at hrun
        · rename_i p hp
          have hd' : DefsOk rs w.drew := ⟨hd.nodup, hd.all⟩
          have g := hP fn nt ro id ops p env H x env' H' hrun (by simp [ht, hp]) (hdr rfl) β w.drew base tmps rs ro' (w.tape w.drawn (.order fn id)) (h.congr rfl) hg he hro hd' hops
          obtain ⟨β', w', tmps', rs', a1, a2, a3, a4, a5, a6⟩ := g
          refine ⟨β', w', tmps', rs', a1, a2, ⟨a3.ext, a3.next, a3.fresh, a3.blk, a3.old, a3.keep, a3.os, a3.tape, a3.output, a3.size⟩, a4, a5, fun k cs => ?_⟩
          refine Reach.of_steps (.one ?_) (a6 k cs)
          rw [st_regionDraw, hV.mixed]
          rfl
        · cases hrun
      · cases hrun
  | rangeFunc f ps as b => exact hR fn nt ro f ps as b env H x env' H' hrun β w base tmps rs ro' h hg he hro hd hc
end
end
end Go.Sp

-- Sp.Sim3
/-! Regions done in their order. -/
namespace Go.Sp
noncomputable section

section
variable {P : Program} {V : View} {G : Nat} {Pl : FuncId → Nat → Array Oper → Prop}

theorem VRel.bool_inv {β : Ren} {v v' : Value} (h : VRel β v v') (b : Bool) : v' = .bool b ↔ v = .bool b := by
  cases h <;> simp

theorem wanted_eq {β : Ren} {nt : Nat} {env : T Value} {tmps : Array Value} (he : ERel β nt env tmps) {ops : Array Oper} {all : List Oper} (ha : ops.toList = all) (o : Oper) :
    Region.wanted o (yielded ops tmps) = wantedA all env o := by
  subst ha
  unfold Region.wanted wantedA
  cases o.guard with
  | none => rfl
  | some g =>
    obtain ⟨j, want⟩ := g
    simp only [yielded, Array.getElem?_toList]
    cases ops[j]? with
    | none => rfl
    | some p =>
      simp only [Option.bind_some]
      cases p.dst with
      | none => rfl
      | some d =>
        simp only [Option.bind_some]
        have r := he.all d
        simp only [look] at r
        cases hd : tmps[d]? with
        | none =>
          have hu : tmps.getD d undef = undef := by
            have : tmps.size ≤ d := Array.getElem?_eq_none_iff.1 hd
            simp [Array.getD, Nat.not_lt.2 this]
          rw [hu] at r
          cases hv : env.get d with
          | none => rfl
          | some v =>
            rw [hv] at r
            cases v <;> first | rfl | (cases r)
        | some x =>
          have hx : tmps.getD d undef = x := by
            obtain ⟨h1, h2⟩ := Array.getElem?_eq_some_iff.1 hd
            simp [Array.getD, h1, h2]
          rw [hx] at r
          cases hv : env.get d with
          | none =>
            rw [hv] at r
            have : x = undef := by
              obtain ⟨a', e1, e2⟩ := VRel.tuple_inv (a := #[]) r
              have e3 := LRel.nil_inv e2
              rw [e1]
              have : a' = #[] := by cases a'; simp at e3; simp [e3]
              rw [this]; rfl
            subst this; rfl
          | some v =>
            rw [hv] at r
            cases r <;> rfl

theorem ERel.put {β : Ren} {nt : Nat} {env env' : T Value} {tmps : Array Value} (he : ERel β nt env tmps) {o : Oper} {v v' : Value} (e : putDst nt o v env = some env') (hv : VRel β v v') :
    ERel β nt env' (dstTmps tmps o.dst v') := by
  unfold putDst at e
  cases hd : o.dst with
  | none => rw [hd] at e; cases e; exact he
  | some d =>
    rw [hd] at e
    dsimp only at e
    split at e
    · rename_i hlt
      cases e
      have hlt : d < tmps.size := by rw [he.size]; exact Nat.le_of_ble_eq_true hlt
      refine ⟨by simp [dstTmps, he.size], fun t => ?_⟩
      simp only [dstTmps, look, T.get_set]
      by_cases ht : t = d
      · subst ht
        rw [if_pos rfl]
        simpa [Array.getD, hlt] using hv
      · rw [if_neg ht]
        have := he.all t
        simp only [look] at this
        have e2 : (tmps.setIfInBounds d v').getD t undef = tmps.getD t undef := by
          rw [Array.getD_eq_getD_getElem?, Array.getD_eq_getD_getElem?, Array.getElem?_setIfInBounds, if_neg (fun h => ht h.symm)]
        rw [e2]; exact this
    · cases e

theorem arr_append_toList (a b : Array Value) : (a ++ b).toList = a.toList ++ b.toList := by simp

theorem sim_callValue (hV : ∀ t tv, V.ty.get t = some tv → TyOk P t tv) {β : Ren} {H : Heap} {f f' : Value} {args : List Value} {args' : Array Value} (hf : VRel β f f') (ha : LRel β args args'.toList) (w : World) :
    (∀ g as H1, V.callValue H f args = some (.enter g as H1) → H1 = H ∧ ∃ as', LRel β as as'.toList ∧ (do let d ← Deferred.ofValue f' args'; invoke d.target d.args : Sem Next).run P w = (callFunc g as').run P w) ∧
    (∀ l as H1, V.callValue H f args = some (.yield l as H1) → H1 = H ∧ ∃ t as', β l = some t ∧ LRel β as as'.toList ∧ (do let d ← Deferred.ofValue f' args'; invoke d.target d.args : Sem Next).run P w = (Instr.yield t.blk as').run P w) ∧
    (∀ v H1, V.callValue H f args ≠ some (.val v H1)) := by
  cases hf with
  | func r s1 k1 s2 k2 =>
    rename_i fn fn' a a' c c'
    have ra := LRel.of_arr s1 k1
    have rc := LRel.of_arr s2 k2
    cases r with
    | func g =>
      refine ⟨fun g' as H1 e => ?_, fun l as H1 e => ?_, fun v H1 e => ?_⟩
      · simp only [View.callValue] at e
        cases e
        refine ⟨rfl, a' ++ args' ++ c', ?_, ?_⟩
        · rw [arr_append_toList, arr_append_toList]; exact (ra.append ha).append rc
        · simp [Deferred.ofValue, invoke]
      · simp [View.callValue] at e
      · simp [View.callValue] at e
    | yield ht =>
      refine ⟨fun g' as H1 e => ?_, fun l as H1 e => ?_, fun v H1 e => ?_⟩
      · simp [View.callValue] at e
      · simp only [View.callValue] at e
        cases e
        refine ⟨rfl, _, a' ++ args', ht, ?_, ?_⟩
        · rw [arr_append_toList]; exact ra.append ha
        · simp [Deferred.ofValue, invoke]
      · simp [View.callValue] at e
    | via t p g b =>
      -- a method value through a type
      have key : ∀ tv x rest, p.toList = [] → V.ty.get t = some tv → (b = true ↔ ∃ q, tv.desc = .pointer q) → a.toList ++ args = x :: rest →
          ∃ as', LRel β (x :: rest) as'.toList ∧ (do let d ← Deferred.ofValue (.func (.via t p g b) a' c') args'; invoke d.target d.args : Sem Next).run P w = (callFunc g as').run P w := by
        intro tv x rest hp htv hb hx
        have hr := ra.append ha
        rw [hx] at hr
        obtain ⟨x', m, hm, r1, r2⟩ := LRel.cons_inv hr
        have hz : (a' ++ args')[0]? = some x' := by rw [← Array.getElem?_toList, arr_append_toList, hm]; rfl
        refine ⟨#[x'] ++ (a' ++ args').extract 1 (a' ++ args').size, ?_, ?_⟩
        · have : (#[x'] ++ (a' ++ args').extract 1 (a' ++ args').size).toList = x' :: m := by
            have h1 : (a' ++ args').toList = x' :: m := by rw [arr_append_toList, hm]
            rw [arr_append_toList, Array.toList_extract, h1]
            have h2 : (a' ++ args').size = m.length + 1 := by
              rw [← Array.length_toList, arr_append_toList, hm]; rfl
            rw [h2]
            simp [List.extract_eq_take_drop]
          rw [this]; exact LRel.cons r1 r2
        · have hrv : (receiverVia t x' p b).run P w = .ok x' w := by
            unfold receiverVia
            rw [hp]
            simp only [Sem.run_bind, follow, Sem.run_pure, Result.andThen_ok, receiverAt, ty_under hV w htv]
            cases b with
            | true =>
              obtain ⟨q, hq⟩ := hb.1 rfl
              rw [hq]
              simp [Place.get]
            | false =>
              have : ∀ q, tv.desc ≠ .pointer q := fun q hq => by have := hb.2 ⟨q, hq⟩; cases this
              cases hd : tv.desc <;> first | exact absurd hd (this _) | simp [Place.get]
          simp only [Sem.run_bind, Deferred.ofValue, Sem.run_pure, Result.andThen_ok, invoke, hz, hrv]
      have nov : ∀ r, V.callValue H (.func (.via t p g b) a c) args = some r → ∃ as, r = .enter g as H ∧
          ∃ as', LRel β as as'.toList ∧ (do let d ← Deferred.ofValue (.func (.via t p g b) a' c') args'; invoke d.target d.args : Sem Next).run P w = (callFunc g as').run P w := by
        intro r e
        simp only [View.callValue] at e
        split at e
        · rename_i tv hp htv
          split at e
          · rename_i q hq
            split at e
            · rename_i x rest hx
              cases e
              obtain ⟨as', h1, h2⟩ := key _ x rest hp htv ⟨fun _ => ⟨_, hq⟩, fun _ => rfl⟩ hx
              exact ⟨_, rfl, as', h1, h2⟩
            · cases e
          · cases e
        · rename_i tv hp htv
          split at e
          · cases e
          · rename_i hq
            split at e
            · rename_i x rest hx
              cases e
              obtain ⟨as', h1, h2⟩ := key _ x rest hp htv ⟨(fun h => by cases h), fun ⟨q, h⟩ => absurd h (hq q)⟩ hx
              exact ⟨_, rfl, as', h1, h2⟩
            · cases e
        · cases e
      refine ⟨fun g' as H1 e => ?_, fun l as H1 e => ?_, fun v H1 e => ?_⟩
      · obtain ⟨as2, h1, h2⟩ := nov _ e
        cases h1; exact ⟨rfl, h2⟩
      · obtain ⟨as2, h1, h2⟩ := nov _ e; cases h1
      · obtain ⟨as2, h1, h2⟩ := nov _ e; cases h1
  | _ => exact ⟨fun g as H1 e => by simp [View.callValue] at e, fun g as H1 e => by simp [View.callValue] at e, fun v H1 e => by simp [View.callValue] at e⟩

theorem value_val {r : Option Value} {H : Heap} {x : View.Nx} (e : View.value r H = some x) : ∃ v H', x = .val v H' := by
  unfold View.value at e; split at e
  · cases e; exact ⟨_, _, rfl⟩
  · cases e
theorem both_val {r : Option (Value × Heap)} {x : View.Nx} (e : View.both r = some x) : ∃ v H', x = .val v H' := by
  unfold View.both at e; split at e
  · cases e; exact ⟨_, _, rfl⟩
  · cases e
theorem quiet_val {r : Option Heap} {x : View.Nx} (e : View.quiet r = some x) : ∃ v H', x = .val v H' := by
  unfold View.quiet at e; split at e
  · cases e; exact ⟨_, _, rfl⟩
  · cases e
theorem builtin_val {H : Heap} {b : Builtin} {ts : List TypeId} {args : List Value} {x : View.Nx} (e : V.builtin H b ts args = some x) : ∃ v H', x = .val v H' := by
  cases b <;> simp only [View.builtin] at e <;> first
    | exact value_val e
    | exact both_val e
    | (cases e; done)
    | (split at e
       · exact value_val e
       · cases e)

theorem op_val {ρ : Operand → Value} {H : Heap} {op : Op} {x : View.Nx} (e : V.op ρ H op = some x) (hc : ∀ c f, op = .call c → c.callee ≠ .value f) : ∃ v H', x = .val v H' := by
  cases op <;> simp only [View.op] at e
  case call c =>
    split at e
    · rename_i f hf; exact absurd hf (hc c f rfl)
    · exact builtin_val e
    · cases e
  case pick => split at e; · exact ⟨_, _, (Option.some.inj e).symm⟩
               · exact ⟨_, _, (Option.some.inj e).symm⟩
               · cases e
  case alloc => split at e; · exact ⟨_, _, (Option.some.inj e).symm⟩
                · cases e
  case load => split at e; · exact value_val e
               · cases e
  case store => split at e; · exact quiet_val e
                · cases e
  case nilCheck => split at e; · exact ⟨_, _, (Option.some.inj e).symm⟩
                   · cases e
  case makeMap r => cases r with
    | none => exact ⟨_, _, (Option.some.inj e).symm⟩
    | some r => simp only at e; split at e; · exact ⟨_, _, (Option.some.inj e).symm⟩
                · cases e
  case extract => split at e; · exact value_val e
                  · cases e
  all_goals first
    | exact value_val e
    | exact both_val e
    | exact quiet_val e
    | exact ⟨_, _, (Option.some.inj e).symm⟩
    | (cases e; done)

theorem op_enter (hV : ∀ t tv, V.ty.get t = some tv → TyOk P t tv) {β : Ren} {H : Heap} {ρ ρ' : Operand → Value} {o : Oper} (hρ : ∀ x, x ∈ o.op.operands.toList → VRel β (ρ x) (ρ' x)) (w : World) :
    (∀ g as H1, V.op ρ H o.op = some (.enter g as H1) → H1 = H ∧ ∃ as', LRel β as as'.toList ∧ (execOp ρ' o).run P w = (callFunc g as').run P w) ∧
    (∀ l as H1, V.op ρ H o.op = some (.yield l as H1) → H1 = H ∧ ∃ t as', β l = some t ∧ LRel β as as'.toList ∧ (execOp ρ' o).run P w = (Instr.yield t.blk as').run P w) := by
  obtain ⟨dst, op, ty, pos, after, guard⟩ := o
  simp only at hρ
  cases op with
  | call c =>
    cases hc : c.callee with
    | value f =>
      have hf : VRel β (ρ f) (ρ' f) := hρ f (by simp [Op.operands, hc, Call.operands])
      have ha : LRel β (c.args.toList.map ρ) (c.args.map ρ').toList := args_rel c.args fun x hx => hρ x (by simp [Op.operands, hc, Call.operands]; simp at hx; simp [hx])
      have := sim_callValue hV (H := H) hf ha w
      have he : (execOp ρ' { dst, op := .call c, type := ty, pos, after, guard }).run P w = (do let d ← Deferred.ofValue (ρ' f) (c.args.map ρ'); invoke d.target d.args : Sem Next).run P w := by
        simp [execOp, resolve, hc]
      simp only [View.op, hc]
      rw [he]
      exact ⟨this.1, this.2.1⟩
    | builtin b =>
      have no : ∀ c0 f, Op.call c = .call c0 → c0.callee ≠ .value f := by intro c0 f h; cases h; rw [hc]; simp
      refine ⟨fun g as H1 e => ?_, fun l as H1 e => ?_⟩ <;> (obtain ⟨_, _, h⟩ := op_val e no; cases h)
    | invoke x name =>
      refine ⟨fun g as H1 e => ?_, fun l as H1 e => ?_⟩ <;> (simp [View.op, hc] at e)
  | _ => refine ⟨fun g as H1 e => ?_, fun l as H1 e => ?_⟩ <;> (obtain ⟨_, _, h⟩ := op_val e (fun _ _ h => by cases h); cases h)
end
end
end Go.Sp

-- Sp.Sim4
/-! Regions, calls, rounds. -/
namespace Go.Sp
noncomputable section

section
variable {P : Program} {V : View} {G : Nat} {Pl : FuncId → Nat → Array Oper → Prop}

theorem Goes.after {fn : FuncId} {nt : Nat} {ro' : Option Nat} {β β1 : Ren} {H H1 : Heap} {w w1 : World} {base : Nat} {tmps tmps1 : Array Value} {rs : List Nat} {it it2 : Item} {x : AExit} {env' : T Value} {H' : Heap}
    (h : HRel (okC P G Pl) β H w base) (p : Post β H w β1 H1 w1)
    (hs : ∀ k cs, Steps P (lone (mkF fn tmps (it :: k) (rs.map dmark) ro') cs w) (lone (mkF fn tmps1 (it2 :: k) (rs.map dmark) ro') cs w1))
    (g : Goes P G Pl fn nt ro' β1 H1 w1 base tmps1 rs it2 x env' H') : Goes P G Pl fn nt ro' β H w base tmps rs it x env' H' := by
  obtain ⟨β', w', tmps', rs', a1, a2, a3, a4, a5, a6⟩ := g
  refine ⟨β', w', tmps', rs', a1, a2, p.trans h a3, a4, ?_, fun k cs => Reach.of_steps (hs k cs) (a6 k cs)⟩
  intro r hr
  rcases a5 r hr with h | h
  · exact .inl h
  · exact .inr (Nat.le_trans p.size h)

theorem OperOk.rho {o : Oper} (ho : OperOk P G o) {β : Ren} {nt : Nat} {env : T Value} {tmps : Array Value} (hg : GRel G β) (he : ERel β nt env tmps) (fn : FuncId) :
    ∀ x, x ∈ o.op.operands.toList → VRel β (look env x) ((mkF fn tmps [] [] none).eval x) := fun x hx => look_rel hg he fn (ho.opnds x hx)

theorem OperOk.fnRel {o : Oper} (ho : OperOk P G o) (β : Ren) : ∀ fn, opFn o.op = some fn → FnRel β fn fn := by
  intro fn hf
  have := ho.fn fn hf
  cases fn with
  | func f => exact .func f
  | via t p f b => exact .via t p f b
  | _ => simp [okFn] at this

/-- What an operation comes to. -/
def OpGives (P : Program) (G : Nat) (Pl : FuncId → Nat → Array Oper → Prop) (fn : FuncId) (ro' : Option Nat) (β : Ren) (H : Heap) (w : World) (base : Nat) (tmps : Array Value) (o : Oper) (v : Value) (H' : Heap) : Prop :=
  ∃ β' w' v', HRel (okC P G Pl) β' H' w' base ∧ VRel β' v v' ∧ Post β H w β' H' w' ∧
    ∀ (ops : Array Oper) (i : Nat) (rest : List Nat) (ds : List Deferred) k cs, ops[i]? = some o → Region.wanted o (yielded ops tmps) = true →
      Steps P (lone (mkF fn tmps (.inRegion ops (i :: rest) :: k) ds ro') cs w) (lone (mkF fn (dstTmps tmps o.dst v') (.inRegion ops rest :: k) ds ro') cs w')

theorem opVal' (hV : VOk P V G Pl) {fn : FuncId} {ro' : Option Nat} {β : Ren} {H : Heap} {w : World} {base : Nat} {ρ : Operand → Value} {tmps : Array Value} {o : Oper} {v : Value} {H' : Heap}
    (e : V.op ρ H o.op = some (.val v H')) (h : HRel (okC P G Pl) β H w base) (hρ : ∀ x, x ∈ o.op.operands.toList → VRel β (ρ x) ((mkF fn tmps [] [] none).eval x)) (ho : OperOk P G o) : OpGives P G Pl fn ro' β H w base tmps o v H' := by
  obtain ⟨β', w', v', h1, h2, h3, h4⟩ := sim_op hV.ty h e hρ ho.types (ho.fnRel β)
  exact ⟨β', w', v', h2, h3, h4, fun ops i rest ds k cs hi hw => .one (st_opVal hi hw ho.noDefer h1)⟩

theorem opCall' (hV : VOk P V G Pl) (n : Nat) (hC : CallSim P V G Pl n) {fn : FuncId} {ro' : Option Nat} {β : Ren} {H H1 : Heap} {w : World} {base : Nat} {ρ : Operand → Value} {tmps : Array Value} {o : Oper} {f : FuncId} {args : List Value} {v : Value} {H' : Heap}
    (e : V.op ρ H o.op = some (.enter f args H1)) (er : run V n (.call f args) H1 = some (.val v H')) (h : HRel (okC P G Pl) β H w base) (hg : GRel G β) (hρ : ∀ x, x ∈ o.op.operands.toList → VRel β (ρ x) ((mkF fn tmps [] [] none).eval x)) (ho : OperOk P G o) :
    OpGives P G Pl fn ro' β H w base tmps o v H' := by
  obtain ⟨e1, args', hl, hx⟩ := (op_enter hV.ty hρ w).1 _ _ _ e
  subst e1
  obtain ⟨hf, hc⟩ := hC f args H1 v H' er
  obtain ⟨β', w', v', h2, h3, h4, h5⟩ := hc β w base args' h hg hl
  refine ⟨β', w', v', h2, h3, h4, fun ops i rest ds k cs hi hw => ?_⟩
  rw [hf] at hx
  obtain ⟨fr, a1, a2, a3⟩ := h5 (mkF fn tmps (.inRegion ops (i :: rest) :: k) ds ro' :: cs)
  refine .head (st_opEnter hi hw ho.noDefer hx) (a3.trans (.one ?_))
  rw [step_leave_returned a1, finish_op ops i rest o hi]

theorem opYield' (hV : VOk P V G Pl) (n : Nat) (hY : YieldSim P V G Pl n) {fn : FuncId} {ro' : Option Nat} {β : Ren} {H H1 : Heap} {w : World} {base : Nat} {ρ : Operand → Value} {tmps : Array Value} {o : Oper} {l : Nat} {args : List Value} {v : Value} {H' : Heap}
    (e : V.op ρ H o.op = some (.yield l args H1)) (er : run V n (.yield l args) H1 = some (.val v H')) (h : HRel (okC P G Pl) β H w base) (hg : GRel G β) (hρ : ∀ x, x ∈ o.op.operands.toList → VRel β (ρ x) ((mkF fn tmps [] [] none).eval x)) (ho : OperOk P G o) :
    OpGives P G Pl fn ro' β H w base tmps o v H' := by
  obtain ⟨e1, t, args', ht, hl, hx⟩ := (op_enter hV.ty hρ w).2 _ _ _ e
  subst e1
  obtain ⟨f, tm, as, b, a1, β', w', v', h2, h3, h4, h5⟩ := hY l args H1 v H' er β w base args' t h hg hl ht
  refine ⟨β', w', v', h2, h3, h4, fun ops i rest ds k cs hi hw => ?_⟩
  rw [a1] at hx
  refine .head (st_opRound hi hw ho.noDefer hx) ?_
  have := h5 (mkF fn tmps (.inRegion ops (i :: rest) :: k) ds ro') cs
  rw [finish_op ops i rest o hi] at this
  exact this

theorem opsSim (hV : VOk P V G Pl) (n : Nat) (hO : OpsSim P V G Pl n) (hC : CallSim P V G Pl n) (hY : YieldSim P V G Pl n) : OpsSim P V G Pl (n + 1) := by
  intro fn nt ro all todo env H x env' H' hrun β w base tmps rs ro' ops is h hg he hro hd hall his hops
  cases todo with
  | nil =>
    simp only [run] at hrun; cases hrun
    have : is = [] := by cases is <;> simp at his; rfl
    subst this
    exact Goes.now h he hd fun k cs => .one st_regionEnd
  | cons o rest =>
    obtain ⟨i, is', rfl⟩ : ∃ i is', is = i :: is' := by
      cases is with
      | nil => simp at his
      | cons i is' => exact ⟨i, is', rfl⟩
    simp only [List.map_cons, List.cons.injEq] at his
    obtain ⟨hi, his'⟩ := his
    have ho := hops i o hi
    have hwe := wanted_eq he hall o
    simp only [run] at hrun
    -- after an operation
    have after : ∀ {v : Value} {env1 : T Value} {H1 : Heap}, wantedA all env o = true → OpGives P G Pl fn ro' β H w base tmps o v H1 → putDst nt o v env = some env1 →
        run V n (.ops fn nt ro all rest env1) H1 = some (.code x env' H') → Goes P G Pl fn nt ro' β H w base tmps rs (.inRegion ops (i :: is')) x env' H' := by
      intro v env1 H1 hw g hp hr
      obtain ⟨β1, w1, v', g1, g2, g3, g4⟩ := g
      refine Goes.after h g3 (fun k cs => g4 ops i is' _ k cs hi (hwe.trans hw)) ?_
      exact hO fn nt ro all rest env1 H1 x env' H' hr β1 w1 base _ rs ro' ops is' g1 (hg.mono g3.ext) ((he.mono g3.ext).put hp g2) (hro.mono g3.ext) (hd.keep h g3) hall his' hops
    split at hrun
    · rename_i hw
      split at hrun
      · rename_i env1 hp
        refine Goes.after h (Post.refl _ _ _) (fun k cs => .one (st_opSkip hi (hwe.trans hw))) ?_
        exact hO fn nt ro all rest env1 H x env' H' hrun β w base _ rs ro' ops is' h hg (he.put hp (VRel.undef β)) hro hd hall his' hops
      · cases hrun
    · rename_i hw
      split at hrun
      · rename_i v H1 e
        split at hrun
        · rename_i env1 hp
          exact after hw (opVal' hV e h (ho.rho hg he fn) ho) hp hrun
        · cases hrun
      · rename_i f args H1 e
        split at hrun
        · rename_i v H2 er
          split at hrun
          · rename_i env1 hp
            exact after hw (opCall' hV n hC e er h hg (ho.rho hg he fn) ho) hp hrun
          · cases hrun
        · cases hrun
      · rename_i l args H1 e
        split at hrun
        · rename_i v H2 er
          split at hrun
          · rename_i env1 hp
            exact after hw (opYield' hV n hY e er h hg (ho.rho hg he fn) ho) hp hrun
          · cases hrun
        · cases hrun
      · cases hrun
end
end
end Go.Sp

-- Sp.Sim5
/-! Calls. -/
namespace Go.Sp
noncomputable section

/-- One result variable, read. -/
def readRes (tmps : Array Value) : ResultVar → Sem Value
  | .tmp t => pure (tmps.getD t undef)
  | .cell a t => do loadVar t (← asAddr (tmps.getD a undef))

theorem results_eq (fn : Func) (tmps : Array Value) : results fn tmps = (do let vs ← fn.results.mapM (readRes tmps); pure (if h : vs.size = 1 then vs[0] else .tuple vs)) := by
  unfold results
  congr 1

section
variable {P : Program} {V : View} {G : Nat} {Pl : FuncId → Nat → Array Oper → Prop}

theorem readRes_list (hV : ∀ t tv, V.ty.get t = some tv → TyOk P t tv) {ok : FuncId → Nat → Code → Prop} {β : Ren} {H : Heap} {w : World} {base nt : Nat} {env : T Value} {tmps : Array Value} (h : HRel ok β H w base) (he : ERel β nt env tmps) :
    ∀ (rs : List ResultVar) (l : List Value), resultsOf V H env rs = some l → ∃ l', (rs.mapM (readRes tmps) : Sem (List Value)).run P w = .ok l' w ∧ LRel β l l'
  | [], l, e => by simp only [resultsOf] at e; cases e; exact ⟨[], by simp, LRel.nil β⟩
  | .tmp t :: rs, l, e => by
    simp only [resultsOf] at e
    split at e
    · rename_i m hm
      cases e
      obtain ⟨l', h1, h2⟩ := readRes_list hV h he rs m hm
      refine ⟨tmps.getD t undef :: l', ?_, LRel.cons (he.all t) h2⟩
      rw [List.mapM_cons]
      simp only [readRes, Sem.run_bind, Sem.run_pure, Result.andThen_ok, h1]
    · cases e
  | .cell a t :: rs, l, e => by
    simp only [resultsOf] at e
    split at e
    · rename_i p hp
      split at e
      · rename_i v m hv hm
        cases e
        obtain ⟨l', h1, h2⟩ := readRes_list hV h he rs m hm
        have ha := he.all a
        rw [hp] at ha
        cases ha' : tmps.getD a undef with
        | pointer q =>
          rw [ha'] at ha
          cases ha with
          | ptr hb =>
            obtain ⟨v', k1, k2⟩ := sim_loadVar hV w h hv hb
            refine ⟨v' :: l', ?_, LRel.cons k2 h2⟩
            rw [List.mapM_cons]
            simp only [readRes, ha', asAddr, Sem.run_bind, Sem.run_pure, Result.andThen_ok, k1, h1]
        | _ => rw [ha'] at ha; cases ha
      · cases e
    · cases e

theorem sim_results (hV : ∀ t tv, V.ty.get t = some tv → TyOk P t tv) {ok : FuncId → Nat → Code → Prop} {β : Ren} {H : Heap} {w : World} {base nt : Nat} {env : T Value} {tmps : Array Value} (h : HRel ok β H w base) (he : ERel β nt env tmps)
    {fn : Func} {rs : List ResultVar} (hf : fn.results.toList = rs) {l : List Value} (e : resultsOf V H env rs = some l) : ∃ v', (results fn tmps).run P w = .ok v' w ∧ VRel β (oneOf l) v' := by
  obtain ⟨l', h1, h2⟩ := readRes_list hV h he rs l e
  rw [results_eq, Array.mapM_eq_mapM_toList, hf]
  simp only [Sem.run_bind, Sem.run_map, h1, Result.andThen_ok, Sem.run_pure]
  refine ⟨_, rfl, ?_⟩
  unfold oneOf
  split
  · rename_i v
    obtain ⟨v', m, rfl, k1, k2⟩ := LRel.cons_inv h2
    have := LRel.nil_inv k2; subst this
    simpa using k1
  · rename_i hne
    have hl : ¬ l'.toArray.size = 1 := by
      have := h2.1
      intro h3
      simp at h3
      rw [h3] at this
      match l, this with
      | [v], _ => exact hne v rfl
    rw [dif_neg hl]
    exact VRel.tuple_of h2

theorem aside_not_live {ok : FuncId → Nat → Code → Prop} {β : Ren} {H : Heap} {w : World} {base : Nat} (h : HRel ok β H w base) {r : Nat} {x : Option (List Deferred)} (hr : w.heap[r]? = some (.deferred x)) :
    ∀ b o t, H.get b = some o → β b = some t → t.blk ≠ r := by
  intro b o t h1 h2 e
  obtain ⟨t', y, e1, e2, e3⟩ := h.live b o h1
  rw [h2] at e1; cases e1
  rw [e, hr] at e2; cases e2
  cases e3

/-- A block that nobody here knows is put anew. -/
theorem HRel.aside {ok : FuncId → Nat → Code → Prop} {β : Ren} {H : Heap} {w : World} {base : Nat} (h : HRel ok β H w base) {r : Nat} {x : Option (List Deferred)} (hr : w.heap[r]? = some (.deferred x)) (y : Obj) :
    HRel ok β H (setObjW w r y) base := by
  have hn := aside_not_live h hr
  refine ⟨h.dom, h.lt, ?_, h.own, h.sep, by simpa using h.le⟩
  intro b o e
  obtain ⟨t, z, e1, e2, e3⟩ := h.live b o e
  refine ⟨t, z, e1, ?_, e3⟩
  simp only [setObjW, Array.getElem?_setIfInBounds]
  rw [if_neg (fun k => hn b o t e e1 k.symm)]
  exact e2

theorem unwindAll {fn : FuncId} {tmps : Array Value} {ok : FuncId → Nat → Code → Prop} {β : Ren} {H : Heap} {base : Nat} : ∀ (rs : List Nat) (w : World), HRel ok β H w base → DefsOk rs w →
    ∃ w2, HRel ok β H w2 base ∧ w2.os = w.os ∧ w2.tape = w.tape ∧ w2.output = w.output ∧ w2.heap.size = w.heap.size ∧ (∀ i, i ∉ rs → w2.heap[i]? = w.heap[i]?) ∧
      ∀ k cs, Steps P (lone { mkF fn tmps k (rs.map dmark) none with mode := .returning } cs w) (lone { mkF fn tmps k [] none with mode := .returning } cs w2)
  | [], w, h, _ => ⟨w, h, rfl, rfl, rfl, rfl, fun _ _ => rfl, fun _ _ => .refl _ _⟩
  | r :: rs, w, h, d => by
    have hr := d.all r (by simp)
    have hnd := List.nodup_cons.1 d.nodup
    have d2 : DefsOk rs (setObjW w r (.deferred none)) := ⟨hnd.2, fun i hi => by
      have : r ≠ i := fun e => hnd.1 (e ▸ hi)
      simp only [setObjW, Array.getElem?_setIfInBounds]
      rw [if_neg this]
      exact d.all i (by simp [hi])⟩
    obtain ⟨w2, a1, a2, a3, a4, a5, a6, a7⟩ := unwindAll rs (setObjW w r (.deferred none)) (h.aside hr _) d2
    refine ⟨w2, a1, a2, a3, a4, by rw [a5]; simp, ?_, fun k cs => .head (st_unwind (run_takeDeferred hr)) (a7 k cs)⟩
    intro i hi
    rw [a6 i (fun h => hi (by simp [h]))]
    simp only [setObjW, Array.getElem?_setIfInBounds]
    rw [if_neg (fun e => hi (by simp [e]))]

theorem Post.aside {β β' : Ren} {H H' : Heap} {w w' w2 : World} (p : Post β H w β' H' w') {rs : List Nat} (hrs : ∀ r, r ∈ rs → w.heap.size ≤ r)
    (h1 : w2.os = w'.os) (h2 : w2.tape = w'.tape) (h3 : w2.output = w'.output) (h4 : w2.heap.size = w'.heap.size) (h5 : ∀ i, i ∉ rs → w2.heap[i]? = w'.heap[i]?) : Post β H w β' H' w2 :=
  ⟨p.ext, p.next, p.fresh, p.blk, p.old, fun k hk hn => by
    rw [h5 k (fun h => Nat.not_lt.2 (hrs k h) hk)]; exact p.keep k hk hn, h1.trans p.os, h2.trans p.tape, h3.trans p.output, by rw [h4]; exact p.size⟩

theorem ERel.args {β : Ren} {nt : Nat} {args : List Value} {args' : Array Value} (h : LRel β args args'.toList) (hn : args.length ≤ nt) :
    ERel β nt (T.ofList args 0 .leaf) (args' ++ Array.replicate (nt - args'.size) undef) := by
  have hs : args'.size = args.length := by rw [h.1]; simp
  refine ⟨by simp; omega, fun (t : Nat) => ?_⟩
  simp only [look, T.get_ofList, T.get_leaf]
  by_cases ht : t < args.length
  · rw [if_pos ⟨Nat.zero_le _, by omega⟩, Nat.sub_zero, List.getElem?_eq_getElem ht]
    obtain ⟨v', e, r⟩ := h.2 t _ (List.getElem?_eq_getElem ht)
    have : (args' ++ Array.replicate (nt - args'.size) undef).getD t undef = v' := by
      rw [Array.getD_eq_getD_getElem?, Array.getElem?_append_left (by omega), ← Array.getElem?_toList, e]; rfl
    rw [this]; exact r
  · rw [if_neg (by omega)]
    have : (args' ++ Array.replicate (nt - args'.size) undef).getD t undef = undef := by
      rw [Array.getD_eq_getD_getElem?, Array.getElem?_append_right (by omega), Array.getElem?_replicate]
      split <;> rfl
    rw [this]; exact VRel.undef β

theorem callSim (hV : VOk P V G Pl) (n : Nat) (hC : CodeSim P V G Pl n) : CallSim P V G Pl (n + 1) := by
  intro f args H v H' hrun
  simp only [run] at hrun
  split at hrun
  · rename_i g hg
    split at hrun
    · rename_i v1 H1 hv
      cases hrun
      obtain ⟨h1, h2⟩ := hV.ext f g hg
      exact ⟨h1, fun β w base args' h hgr hl => h2 args H v H' hv β w base args' h hgr hl⟩
    · cases hrun
  · split at hrun
    · cases hrun
    · rename_i fv hfv
      obtain ⟨hr, hcode, fnn, hf1, hf2, hf3, hf4⟩ := hV.fn f fv hfv
      refine ⟨hr, fun β w base args' h hgr hl => ?_⟩
      split at hrun
      · cases hrun
      · rename_i hle
        have hle := Nat.le_of_ble_eq_true hle
        -- the body, and what it leaves
        have fin : ∀ x env H1 l, (∀ i, x ≠ .exit i) → run V n (.code f fv.nt none fv.body (T.ofList args 0 .leaf)) H = some (.code x env H1) → resultsOf V H1 env fv.results = some l →
            CallGives P G Pl β H w base f args' (oneOf l) H1 := by
          intro x env H1 l hx hb hres
          obtain ⟨β', w', tmps', rs', a1, a2, a3, a4, a5, a6⟩ := hC f fv.nt none fv.body _ H x env H1 hb β w base (args' ++ Array.replicate (fnn.ntmps - args'.size) undef) [] none h hgr
            (by rw [hf2]; exact ERel.args hl hle) trivial ⟨List.nodup_nil, fun r hr => by simp at hr⟩ hcode
          obtain ⟨w2, b1, b2, b3, b4, b5, b6, b7⟩ := unwindAll (P := P) (fn := f) (tmps := tmps') rs' w' a1 a4
          obtain ⟨v', c1, c2⟩ := sim_results hV.ty b1 a2 (congrArg id hf3) hres
          have hpost := a3.aside (fun r hr => (a5 r hr).resolve_left (by simp)) b2 b3 b4 b5 b6
          refine ⟨β', w2, v', b1, c2, hpost, fun cs => ?_⟩
          have start : lone (Frame.enter P f args' .normal) cs w = lone (mkF f (args' ++ Array.replicate (fnn.ntmps - args'.size) undef) [.code fv.body] [] none) cs w := by
            rw [enter_eq P f args' fnn fv.body hf1 hf4]
          rw [start]
          have back : ∀ k2, Steps P (lone (mkF f (args' ++ Array.replicate (fnn.ntmps - args'.size) undef) [.code fv.body] [] none) cs w) (lone { mkF f tmps' k2 (rs'.map dmark) none with mode := .returning } cs w') →
              ∃ fr, fr.leaving P w2 (.returned v') ∧ fr.fn = f ∧ Steps P (lone (mkF f (args' ++ Array.replicate (fnn.ntmps - args'.size) undef) [.code fv.body] [] none) cs w) (lone fr cs w2) := by
            intro k2 hs
            exact ⟨_, ⟨rfl, rfl, rfl, fnn, hf1, c1⟩, rfl, hs.trans (b7 k2 cs)⟩
          have := a6 [] cs
          cases x with
          | normal => exact back [] (this.trans (.one (st_end rfl)))
          | ret => obtain ⟨k2, s⟩ := this; exact back (.code .ret :: k2) (s.trans (.one (st_ret rfl)))
          | exit i => exact absurd rfl (hx i)
        split at hrun
        · cases hrun
        · rename_i x env H1 hne hb
          split at hrun
          · rename_i l hl
            cases hrun
            exact fin x env H' l (fun i e => hne i e) hb hl
          · cases hrun
        · cases hrun
end
end
end Go.Sp

-- Sp.Sim6
/-! Rounds of a loop over a function; such loops. -/
namespace Go.Sp
noncomputable section

section
variable {P : Program} {V : View} {G : Nat} {Pl : FuncId → Nat → Array Oper → Prop}

theorem putAll_len {nt : Nat} : ∀ (ps : List Tmp) (vs : List Value) (env env' : T Value), putAll nt ps vs env = some env' → ps.length = vs.length
  | [], [], _, _, _ => rfl
  | [], _ :: _, _, _, e => by simp [putAll] at e
  | _ :: _, [], _, _, e => by simp [putAll] at e
  | p :: ps, v :: vs, env, env', e => by
    simp only [putAll] at e
    split at e
    · simp [putAll_len ps vs _ _ e]
    · cases e

theorem putAll_rel {β : Ren} {nt : Nat} : ∀ (ps : List Tmp) (vs vs' : List Value) (env env' : T Value) (tmps : Array Value), putAll nt ps vs env = some env' → ERel β nt env tmps → LRel β vs vs' →
    ERel β nt env' ((ps.zip vs').foldl (fun tmps (p : Tmp × Value) => tmps.setIfInBounds p.1 p.2) tmps)
  | [], [], vs', env, env', tmps, e, he, hl => by simp only [putAll] at e; cases e; simpa using he
  | [], _ :: _, _, _, _, _, e, _, _ => by simp [putAll] at e
  | _ :: _, [], _, _, _, _, e, _, _ => by simp [putAll] at e
  | p :: ps, v :: vs, vs', env, env', tmps, e, he, hl => by
    simp only [putAll] at e
    split at e
    · rename_i hp
      obtain ⟨v', m, rfl, k1, k2⟩ := LRel.cons_inv hl
      simp only [List.zip_cons_cons, List.foldl_cons]
      have : ERel β nt (env.set p v) (tmps.setIfInBounds p v') := he.put (o := { dst := some p, op := .move (.const undef), type := 0, pos := "", after := #[], guard := none }) (by simp [putDst, hp]) k1
      exact putAll_rel ps vs m _ env' _ e this k2
    · cases e

theorem HRel.loop {ok : FuncId → Nat → Code → Prop} {β : Ren} {H : Heap} {w : World} {base : Nat} (h : HRel ok β H w base) {l : Nat} {s : ALoop} {t : Tgt} (e : H.get l = some (.loop s)) (ht : β l = some t) :
    ∃ L, w.heap[t.blk]? = some (.loop L) ∧ LoopRel β (ok s.fn s.nt) s L := by
  obtain ⟨t', x, e1, e2, e3⟩ := h.live l _ e
  rw [ht] at e1; cases e1
  cases e3 with
  | loop r => exact ⟨_, e2, r⟩

theorem yieldSim (_hV : VOk P V G Pl) (n : Nat) (hC : CodeSim P V G Pl n) : YieldSim P V G Pl (n + 1) := by
  intro l args H v H' hrun β w base args' t h hg hl ht
  simp only [run] at hrun
  split at hrun
  case h_2 => cases hrun
  rename_i s hs
  split at hrun
  case h_2 => cases hrun
  rename_i hready
  split at hrun
  · cases hrun
  rename_i env henv
  split at hrun
  case h_2 => cases hrun
  rename_i env1 H1 hr1
  split at hrun
  case h_2 => cases hrun
  rename_i s1 hs1
  split at hrun
  case h_2 => cases hrun
  rename_i hready1
  split at hrun
  case h_2 => cases hrun
  rename_i x env3 H3 hr3
  split at hrun
  case h_2 => cases hrun
  rename_i s3 hs3
  obtain ⟨L, hL, rL⟩ := h.loop hs ht
  have hlen := putAll_len _ _ _ _ henv
  have hsz : args'.size = L.params.size := by
    rw [rL.params]
    have := hl.1
    simp at this
    simp [hlen, this]
  have hfold : (L.params.zip args').foldl (fun tmps (p : Tmp × Value) => tmps.setIfInBounds p.1 p.2) L.tmps = (s.params.zip args'.toList).foldl (fun tmps (p : Tmp × Value) => tmps.setIfInBounds p.1 p.2) L.tmps := by
    rw [rL.params, ← Array.foldl_toList, Array.toList_zip]
  have e0 : ERel β s.nt env ((L.params.zip args').foldl (fun tmps (p : Tmp × Value) => tmps.setIfInBounds p.1 p.2) L.tmps) := by
    rw [hfold]; exact putAll_rel _ _ _ _ _ _ henv rL.env hl
  refine ⟨L.fn, _, L.assign, L.body, run_yield hL hsz, ?_⟩
  rw [rL.fn, rL.assign, rL.body]
  -- the assignment
  obtain ⟨β1, w1, tm1, rs1, a1, a2, a3, a4, a5, a6⟩ := hC s.fn s.nt (some l) s.assign env H .normal env1 H1 hr1 β w base _ [] (some t.blk) h hg e0 ⟨t, ht, rfl⟩ ⟨List.nodup_nil, fun r hr => by simp at hr⟩ rL.ok1
  have ht1 := a3.ext _ _ ht
  obtain ⟨L1, hL1, rL1⟩ := a1.loop hs1 ht1
  -- the round is begun
  have r2 : LoopRel β1 (okC P G Pl s1.fn s1.nt) { s1 with state := .busy } { L1 with state := .busy } := ⟨rfl, rL1.pending, rL1.fn, rL1.params, rL1.assign, rL1.body, rL1.env, rL1.ok1, rL1.ok2⟩
  have b1 := a1.upd hs1 rfl ht1 (.loop { s1 with state := .busy }) (.loop { L1 with state := .busy }) (.loop r2)
  have b2 := Post.upd a1 hs1 rfl ht1 (.loop { s1 with state := .busy }) (.loop { L1 with state := .busy })
  have b3 : DefsOk rs1 (setObjW w1 t.blk (.loop { L1 with state := .busy })) := a4.keep a1 b2
  -- the body
  obtain ⟨β3, w3, tm3, rs3, c1, c2, c3, c4, c5, c6⟩ := hC s.fn s.nt (some l) s.body env1 _ x env3 H3 hr3 β1 _ base tm1 rs1 (some t.blk) b1 (hg.mono a3.ext) a2 ⟨t, ht1, rfl⟩ b3 rL.ok2
  have ht3 := c3.ext _ _ ht1
  obtain ⟨L3, hL3, rL3⟩ := c1.loop hs3 ht3
  have p3 := (a3.trans h b2).trans h c3
  have s1 : ∀ cs, Steps P (lone (mkF s.fn ((L.params.zip args').foldl (fun tmps (p : Tmp × Value) => tmps.setIfInBounds p.1 p.2) L.tmps) [.code s.assign, .beginRound, .code s.body] [] (some t.blk)) cs w)
      (lone (mkF s.fn tm1 [.code s.body] (rs1.map dmark) (some t.blk)) cs (setObjW w1 t.blk (.loop { L1 with state := .busy }))) := fun cs =>
    (a6 [.beginRound, .code s.body] cs).trans (.one (st_beginRound (run_beginRound hL1 (by rw [rL1.state]; exact hready1))))
  -- its end
  have fin : ∀ (st : LoopState) (j : Option Code) (stp : ∀ c cs, Steps P (lone (mkF s.fn tm1 [.code s.body] (rs1.map dmark) (some t.blk)) (c :: cs) (setObjW w1 t.blk (.loop { L1 with state := .busy })))
        (lone (c.finish (.bool j.isNone)) cs (setObjW w3 t.blk (.loop { L3 with state := if j.isNone then .ready else .done, pending := j })))), st = (if j.isNone then .ready else .done) →
      v = .bool j.isNone → H' = H3.upd l (.loop { s3 with state := st, pending := j }) →
      ∃ β' w' v', HRel (okC P G Pl) β' H' w' base ∧ VRel β' v v' ∧ Post β H w β' H' w' ∧
        ∀ c cs, Steps P (lone (mkF s.fn ((L.params.zip args').foldl (fun tmps (p : Tmp × Value) => tmps.setIfInBounds p.1 p.2) L.tmps) [.code s.assign, .beginRound, .code s.body] [] (some t.blk)) (c :: cs) w) (lone (c.finish v') cs w') := by
    intro st j stp e1 e2 e3
    subst e1; subst e2; subst e3
    have r4 : LoopRel β3 (okC P G Pl s3.fn s3.nt) { s3 with state := if j.isNone then .ready else .done, pending := j } { L3 with state := if j.isNone then .ready else .done, pending := j } :=
      ⟨rfl, rfl, rL3.fn, rL3.params, rL3.assign, rL3.body, rL3.env, rL3.ok1, rL3.ok2⟩
    refine ⟨β3, _, .bool j.isNone, c1.upd hs3 rfl ht3 _ _ (.loop r4), .bool _, p3.trans h (Post.upd c1 hs3 rfl ht3 _ _), fun c cs => (s1 (c :: cs)).trans (stp c cs)⟩
  cases x with
  | normal =>
    simp only at hrun
    cases hrun
    exact fin .ready none (fun c cs => (c6 [] (c :: cs)).trans (.one (st_leaveEnd (run_endRound hL3 none)))) rfl rfl rfl
  | ret =>
    simp only at hrun
    cases hrun
    refine fin .done (some .ret) (fun c cs => ?_) rfl rfl rfl
    obtain ⟨k2, s⟩ := c6 [] (c :: cs)
    exact s.trans (.one (st_leaveRet (run_endRound hL3 _)))
  | exit i =>
    simp only at hrun
    cases hrun
    refine fin .done (some (.exit i)) (fun c cs => ?_) rfl rfl rfl
    obtain ⟨k2, e, s⟩ := c6 [] (c :: cs)
    exact s.trans (.one (st_leaveExit (e.trans rfl) (run_endRound hL3 _)))
end
end
end Go.Sp

-- Sp.Sim7
/-! Loops over functions. -/
namespace Go.Sp
noncomputable section

section
variable {P : Program} {V : View} {G : Nat} {Pl : FuncId → Nat → Array Oper → Prop}

/-- A block that nobody here knows is made. -/
theorem HRel.allocAside {ok : FuncId → Nat → Code → Prop} {β : Ren} {H : Heap} {w : World} {base : Nat} (h : HRel ok β H w base) (x : Obj) : HRel ok β H (w.alloc x) base := by
  refine ⟨h.dom, h.lt, ?_, h.own, h.sep, by rw [World.size_alloc]; have := h.le; omega⟩
  intro b o e
  obtain ⟨t, y, e1, e2, e3⟩ := h.live b o e
  refine ⟨t, y, e1, ?_, e3⟩
  have := (Array.getElem?_eq_some_iff.1 e2).1
  show (w.heap.push x)[t.blk]? = _
  rw [Array.getElem?_push, if_neg (by omega)]; exact e2
theorem Post.allocAside {β : Ren} {H : Heap} {w : World} (x : Obj) : Post β H w β H (w.alloc x) := by
  refine ⟨Ren.le_refl β, Nat.le_refl _, fun _ _ h => .inl h, fun _ _ h k => (by rw [h] at k; cases k), fun b o' _ e => ⟨o', e, fun k => k⟩, ?_, rfl, rfl, rfl, by simp⟩
  intro k hk _
  show (w.heap.push x)[k]? = _
  rw [Array.getElem?_push, if_neg (by omega)]

theorem leaves_eq {p : Option Code} {env env' : T Value} {H H' : Heap} {x : AExit} (e : leaves p env H = some (.code x env' H')) :
    env = env' ∧ H = H' ∧ ((p = none ∧ x = .normal) ∨ (p = some .ret ∧ x = .ret) ∨ ∃ i, p = some (.exit i) ∧ x = .exit i) := by
  unfold leaves at e
  split at e <;> cases e
  · exact ⟨rfl, rfl, .inl ⟨rfl, rfl⟩⟩
  · exact ⟨rfl, rfl, .inr (.inl ⟨rfl, rfl⟩)⟩
  · exact ⟨rfl, rfl, .inr (.inr ⟨_, rfl, rfl⟩)⟩

/-- A loop is entered. -/
theorem enter_sim {fn : FuncId} {nt : Nat} {ro ro' : Option Nat} {β : Ren} {H : Heap} {w : World} {base : Nat} {env : T Value} {tmps : Array Value} {rs : List Nat} {ps : Array Tmp} {as b : Code}
    (h : HRel (okC P G Pl) β H w base) (_he : ERel β nt env tmps) (hro : RoRel β ro ro') (hd : DefsOk rs w) (hl : roundLive H ro = true) :
    ∃ w0 rs0 mark D, HRel (okC P G Pl) β H w0 base ∧ Post β H w β H w0 ∧ DefsOk rs0 w0 ∧ (∀ r, r ∈ rs0 → r ∈ rs ∨ w.heap.size ≤ r) ∧ rs0.map dmark = mark ++ rs.map dmark ∧
      (Instr.enterLoop fn tmps ps as b ro').run P w = .ok (w0.heap.size, mark) (w0.alloc (.loop { state := .ready, pending := none, fn, tmps, params := ps, assign := as, body := b, defers := D })) := by
  cases ro with
  | none =>
    cases ro' with
    | some l' => cases hro
    | none =>
      refine ⟨w.alloc (.deferred (some [])), w.heap.size :: rs, [dmark w.heap.size], w.heap.size, h.allocAside _, Post.allocAside _, ?_, ?_, by simp, ?_⟩
      · have hlt : ∀ r, r ∈ rs → r < w.heap.size := fun r hr => (Array.getElem?_eq_some_iff.1 (hd.all r hr)).1
        refine ⟨List.nodup_cons.2 ⟨fun hm => Nat.lt_irrefl _ (hlt _ hm), hd.nodup⟩, fun r hr => ?_⟩
        show (w.heap.push (.deferred (some [])))[r]? = _
        rcases List.mem_cons.1 hr with hr | hr
        · subst hr; simp
        · rw [Array.getElem?_push, if_neg (by have := hlt r hr; omega)]; exact hd.all r hr
      · intro r hr
        rcases List.mem_cons.1 hr with hr | hr
        · exact .inr (by omega)
        · exact .inl hr
      · rw [run_enterLoop_none, World.size_alloc]
  | some l =>
    cases ro' with
    | none => cases hro
    | some l' =>
      obtain ⟨t, ht, e⟩ := hro
      subst e
      simp only [roundLive] at hl
      split at hl
      · rename_i s hs
        obtain ⟨L, hL, _⟩ := h.loop hs ht
        exact ⟨w, rs, [], L.defers, h, Post.refl _ _ _, hd, fun r hr => .inl hr, rfl, run_enterLoop_some hL⟩
      · cases hl

theorem rangeSim (hV : VOk P V G Pl) (n : Nat) (hC : CallSim P V G Pl n) : ∀ fn nt ro f ps as b env H x env' H', run V (n + 1) (.code fn nt ro (.rangeFunc f ps as b) env) H = some (.code x env' H') →
      ∀ β w base tmps rs ro', HRel (okC P G Pl) β H w base → GRel G β → ERel β nt env tmps → RoRel β ro ro' → DefsOk rs w → CodeOk P G Pl fn (.rangeFunc f ps as b) →
      Goes P G Pl fn nt ro' β H w base tmps rs (.code (.rangeFunc f ps as b)) x env' H' := by
  intro fn nt ro f ps as b env H x env' H' hrun β w base tmps rs ro' h hg he hro hd hc
  simp only [run] at hrun
  split at hrun
  · cases hrun
  rename_i hlive
  split at hrun
  case h_2 => cases hrun
  rename_i g args Hx hcv
  split at hrun
  case h_2 => cases hrun
  rename_i vx H2 hr2
  split at hrun
  case h_2 => cases hrun
  rename_i s hs
  split at hrun
  · cases hrun
  rename_i hbusy
  obtain ⟨w0, rs0, mark, D, a1, a2, a3, a4, a5, a6⟩ := enter_sim (P := P) (fn := fn) (ps := ps) (as := as) (b := b) h he hro hd hlive
  -- the loop is made
  let t : Tgt := ⟨w0.heap.size, 0, 0, 0⟩
  let L : Loop := { state := .ready, pending := none, fn, tmps, params := ps, assign := as, body := b, defers := D }
  have rL : LoopRel β (okC P G Pl fn nt) ⟨.ready, none, fn, env, nt, ps.toList, as, b⟩ L := ⟨rfl, rfl, rfl, rfl, rfl, rfl, he, hc.2.1, hc.2.2⟩
  have b1 := a1.push (.loop ⟨.ready, none, fn, env, nt, ps.toList, as, b⟩) (.loop L) t rfl (.loop rL)
  have b2 := Post.push a1 (.loop ⟨.ready, none, fn, env, nt, ps.toList, as, b⟩) (.loop L) t rfl
  have ht : (β.with H.next t) H.next = some t := Ren.with_same _ _ _
  have hf := (look_rel hg he fn hc.1).mono b2.ext
  have hl : LRel (β.with H.next t) [.func (.yield H.next) #[] #[]] (#[Value.func (.yield w0.heap.size) #[] #[]] : Array Value).toList :=
    LRel.cons (.func (.yield ht) rfl (fun i h => by simp at h) rfl (fun i h => by simp at h)) (LRel.nil _)
  obtain ⟨e1, args', hl', hx⟩ := (sim_callValue hV.ty (H := H.push (.loop ⟨.ready, none, fn, env, nt, ps.toList, as, b⟩)) hf hl (w0.alloc (.loop L))).1 _ _ _ hcv
  subst e1
  obtain ⟨hfr, hcall⟩ := hC g args _ vx H2 hr2
  rw [hfr] at hx
  obtain ⟨β', w', v', c1, c2, c3, c4⟩ := hcall _ _ base args' b1 (hg.mono b2.ext) hl'
  have ht' := c3.ext _ _ ht
  obtain ⟨L2, hL2, rL2⟩ := c1.loop hs ht'
  have hnb : L2.state ≠ .busy := by rw [rL2.state]; exact fun e => hbusy e
  have r4 : LoopRel β' (okC P G Pl s.fn s.nt) { s with state := .exhausted } { L2 with state := .exhausted } := ⟨rfl, rL2.pending, rL2.fn, rL2.params, rL2.assign, rL2.body, rL2.env, rL2.ok1, rL2.ok2⟩
  have d1 := c1.upd hs rfl ht' (.loop { s with state := .exhausted }) (.loop { L2 with state := .exhausted }) (.loop r4)
  have d2 := Post.upd c1 hs rfl ht' (.loop { s with state := .exhausted }) (.loop { L2 with state := .exhausted })
  have p1 := a2.trans h b2
  have p2 := p1.trans h c3
  have p3 := p2.trans h d2
  have d3 : DefsOk rs0 (setObjW w' t.blk (.loop { L2 with state := .exhausted })) := ((a3.keep a1 b2).keep b1 c3).keep c1 d2
  have steps : ∀ k cs, Steps P (lone (mkF fn tmps (.code (.rangeFunc f ps as b) :: k) (rs.map dmark) ro') cs w)
      (lone (mkF fn tmps ((L2.pending.map Item.code).toList ++ k) (rs0.map dmark) ro') cs (setObjW w' t.blk (.loop { L2 with state := .exhausted }))) := by
    intro k cs
    have h2 : (do let d ← resolve (mkF fn tmps [] [] none).eval { callee := .value f, args := #[.const (.func (.yield w0.heap.size) #[] #[])], argTypes := #[] } 0; invoke d.target d.args : Sem Next).run P (w0.alloc (.loop L)) = .ok (.enter g args') (w0.alloc (.loop L)) := by
      simp only [resolve]
      have : (#[Operand.const (Value.func (Fn.yield w0.heap.size) #[] #[])].map (mkF fn tmps [] [] none).eval) = #[Value.func (Fn.yield w0.heap.size) #[] #[]] := by simp [Frame.eval, mkF]
      rw [this]
      exact hx
    obtain ⟨fr, k1, k2, k3⟩ := c4 (mkF fn tmps (.inRangeFunc w0.heap.size :: k) (mark ++ rs.map dmark) ro' :: cs)
    have m1 : step P (lone fr (mkF fn tmps (.inRangeFunc w0.heap.size :: k) (mark ++ rs.map dmark) ro' :: cs) w') = .next (lone (mkF fn tmps (.endRangeFunc w0.heap.size :: k) (mark ++ rs.map dmark) ro') cs w') := by
      rw [step_leave_returned k1, finish_rangeFunc]
    refine .head (st_rangeFunc a6 h2) (k3.trans (.head m1 (.one ?_)))
    rw [a5]
    exact st_endRangeFunc (run_endLoop hL2 hnb)
  have hpend : L2.pending = s.pending := rL2.pending
  obtain ⟨q1, q2, q3⟩ := leaves_eq hrun
  subst q1; subst q2
  refine ⟨β', _, tmps, rs0, d1, he.mono (Ren.le_trans b2.ext c3.ext), p3, d3, a4, fun k cs => ?_⟩
  have key : ∀ j, L2.pending = j → Steps P (lone (mkF fn tmps (.code (.rangeFunc f ps as b) :: k) (rs.map dmark) ro') cs w)
      (lone (mkF fn tmps ((j.map Item.code).toList ++ k) (rs0.map dmark) ro') cs (setObjW w' t.blk (.loop { L2 with state := .exhausted }))) := by
    intro j hj; rw [← hj]; exact steps k cs
  rcases q3 with ⟨q3, rfl⟩ | ⟨q3, rfl⟩ | ⟨i, q3, rfl⟩
  · exact key _ (hpend.trans q3)
  · exact ⟨k, key _ (hpend.trans q3)⟩
  · exact ⟨k, rfl, key _ (hpend.trans q3)⟩
end
end
end Go.Sp

-- Sp.Plan1
/-! Operations that change nothing, and operations that make a block. -/
namespace Go.Sp
noncomputable section

def Sub (H H2 : Heap) : Prop := ∀ b o, H.get b = some o → H2.get b = some o
theorem Sub.refl (H : Heap) : Sub H H := fun _ _ h => h
theorem Sub.trans {A B C : Heap} (h : Sub A B) (k : Sub B C) : Sub A C := fun b o e => k b o (h b o e)

section
variable {V : View}

theorem value_some {r : Option Value} {H H1 : Heap} {v : Value} (e : View.value r H = some (.val v H1)) : r = some v ∧ H1 = H := by
  unfold View.value at e; split at e
  · cases e; exact ⟨rfl, rfl⟩
  · cases e

theorem pure_op {ρ : Operand → Value} {H H1 : Heap} {op : Op} {v : Value} (hp : pureOp op = true) (e : V.op ρ H op = some (.val v H1)) : ∀ H2, V.op ρ H2 op = some (.val v H2) := by
  intro H2
  cases op <;> simp only [pureOp] at hp <;> first | cases hp | skip
  case pick => simp only [View.op] at e ⊢; split at e <;> cases e <;> rfl
  case call c =>
    simp only [View.op] at e ⊢
    cases hc : c.callee with
    | value f => rw [hc] at hp; cases hp
    | invoke r m => rw [hc] at hp; cases hp
    | builtin b =>
      rw [hc] at hp e
      cases b <;> first | (cases hp; done) | skip
      all_goals simp only [View.builtin] at e ⊢
      · rw [(value_some e).1]; rfl
      all_goals
        split at e
        · rw [(value_some e).1]; rfl
        · cases e
  case nilCheck => simp only [View.op] at e ⊢; split at e <;> cases e; rfl
  case extract => simp only [View.op] at e ⊢; split at e
                  · rw [(value_some e).1]; rfl
                  · cases e
  all_goals
    simp only [View.op] at e ⊢
    first
      | (cases e; rfl)
      | (rw [(value_some e).1]; rfl)

theorem cell_sub {H H2 : Heap} (h : Sub H H2) {a : Addr} {v : Value} (e : H.cell a = some v) : H2.cell a = some v := by
  unfold Heap.cell at e ⊢
  split at e
  · cases e
  · rename_i ha
    try dsimp only
    split at e
    · rename_i hg
      rw [h _ _ hg]; exact e
    · cases e
theorem cellsN_sub {H H2 : Heap} (h : Sub H H2) {a : Addr} {n : Nat} {v : List Value} (e : H.cellsN a n = some v) : H2.cellsN a n = some v := by
  unfold Heap.cellsN at e ⊢
  split at e
  · cases e
  · rename_i ha
    try dsimp only
    split at e
    · rename_i hg
      rw [h _ _ hg]; exact e
    · cases e
theorem loadVar_sub {H H2 : Heap} (h : Sub H H2) {t : TypeId} {a : Addr} {v : Value} (e : V.loadVar H t a = some v) : V.loadVar H2 t a = some v := by
  unfold View.loadVar at e ⊢
  split at e
  · cases e
  · rename_i tv ht
    try dsimp only
    split at e
    · rename_i hagg
      split at e
      · rename_i l hl
        rw [cellsN_sub h hl]; exact e
      · cases e
    · exact cell_sub h e
theorem lookup_sub {H H2 : Heap} (h : Sub H H2) {t : TypeId} {m k : Value} {ok : Bool} {v : Value} (e : V.lookup H t m k ok = some v) : V.lookup H2 t m k ok = some v := by
  unfold View.lookup at e ⊢
  split at e
  · cases e
  · split at e
    · cases e
    · rename_i hk
      try dsimp only
      split at e
      · exact e
      · split at e
        · rename_i hg
          rw [h _ _ hg]; exact e
        · cases e
      · cases e

theorem len_sub {H H2 : Heap} (h : Sub H H2) {ts : List TypeId} {args : List Value} {v : Value} (e : V.len H ts args = some v) : V.len H2 ts args = some v := by
  unfold View.len at e ⊢
  split at e
  · split at e
    · cases e
    · rename_i tv ht
      split at e <;> rename_i hd <;> (try rw [hd]) <;> (try dsimp only) <;> first
        | exact e
        | (cases e; done)
        | (split at e
           · rename_i hg
             rw [h _ _ hg]; exact e
           · cases e)
  · cases e

theorem sliceSlice_sub {H H2 : Heap} (h : Sub H H2) {n len c : Nat} {a : Option Addr} {lo hi mx : Option Value} {v : Value} (e : View.sliceSlice H n a len c lo hi mx = some v) : View.sliceSlice H2 n a len c lo hi mx = some v := by
  unfold View.sliceSlice at e ⊢
  split at e
  · cases e
  · try dsimp only
    split at e
    · exact e
    · try dsimp only
      split at e
      · exact e
      · split at e
        · rename_i hg
          rw [h _ _ hg]; exact e
        · cases e
theorem slice_sub {H H2 : Heap} (h : Sub H H2) {t : TypeId} {x : Value} {lo hi mx : Option Value} {v : Value} (e : V.slice H t x lo hi mx = some v) : V.slice H2 t x lo hi mx = some v := by
  unfold View.slice at e ⊢
  split at e
  · cases e
  · try dsimp only
    split at e
    · exact e
    · split at e
      · exact sliceSlice_sub h e
      · cases e
    · exact e
    · exact e
    · cases e

theorem still_op {ρ : Operand → Value} {H H1 : Heap} {op : Op} {v : Value} (hp : stillOp op = true) (e : V.op ρ H op = some (.val v H1)) : ∀ H2, Sub H H2 → V.op ρ H2 op = some (.val v H2) := by
  intro H2 hs
  cases op <;> simp only [stillOp] at hp <;> first | cases hp | skip
  case load =>
    simp only [View.op] at e ⊢
    split at e
    · rw [loadVar_sub hs (value_some e).1]; rfl
    · cases e
  case slice =>
    simp only [View.op] at e ⊢
    rw [slice_sub hs (value_some e).1]; rfl
  case lookup =>
    simp only [View.op] at e ⊢
    rw [lookup_sub hs (value_some e).1]; rfl
  case call c =>
    simp only [View.op] at e ⊢
    cases hc : c.callee with
    | value f => rw [hc] at hp; cases hp
    | invoke r m => rw [hc] at hp; cases hp
    | builtin b =>
      rw [hc] at hp e
      cases b <;> first | (cases hp; done) | skip
      simp only [View.builtin] at e ⊢
      rw [len_sub hs (value_some e).1]; rfl
end
end
end Go.Sp

-- Sp.Plan2
/-! Operations that make a block. -/
namespace Go.Sp
noncomputable section

section
variable {P : Program} {V : View} (hV : ∀ t tv, V.ty.get t = some tv → TyOk P t tv) {β : Ren} {w : World}

theorem ORel.row {ok : FuncId → Nat → Code → Prop} {c c' : List Value} (hc : LRel β c c') (n : Nat) (el : TypeId) : ORel β ok (.cells true 0 c) (.cells ⟨c'⟩ el) ⟨n, 0, c.length, 0⟩ := by
  refine .cells (fun _ => ⟨rfl, rfl⟩) ?_ ?_ ?_
  · simp [hc.1]
  · simp [hc.1]
  · intro i v hi
    obtain ⟨v', h1, h2⟩ := hc.2 i v hi
    exact ⟨v', by simpa using h1, h2⟩

/-- What making a block comes to. -/
def Makes (β : Ren) (w : World) (r : Result Next) (b : AObj) (f : Nat → Value) : Prop :=
  b.own = true ∧ ∃ x t v', r = .ok (.value v') (w.alloc x) ∧ t.blk = w.heap.size ∧ (∀ ok, ORel β ok b x t) ∧ ∀ (β' : Ren) id, β' id = some t → VRel β' (f id) v'

include hV in
theorem mk_buildSlice {t : TypeId} {n : Nat} {ps ps' : List (Nat × Value)} {b : AObj} {f : Nat → Value} (e : mkOf (V.buildSlice ⟨.leaf, 0⟩ t n ps) = some (b, f)) (hp : PRel β ps ps') :
    ∃ c c' el, b = .cells true 0 c ∧ f = (fun id => .slice (some ⟨id, 0, none⟩) n (View.exactly n)) ∧ LRel β c c' ∧ (Instr.buildSlice t n ⟨ps'⟩).run P w = .ok (.slice (some ⟨w.heap.size, 0, none⟩) n n) (w.alloc (.cells ⟨c'⟩ el)) := by
  cases hb : V.buildSlice ⟨.leaf, 0⟩ t n ps with
  | none => rw [hb] at e; cases e
  | some p =>
    obtain ⟨v, H'⟩ := p
    rw [hb] at e
    unfold View.buildSlice at hb
    split at hb
    · cases hb
    · rename_i tv ht
      have hu := (hV t tv ht).under
      split at hb
      · rename_i el hdsc
        rw [hdsc] at hu
        split at hb
        · rename_i ev hev
          split at hb
          · rename_i hbb
            simp only [Bool.and_eq_true] at hbb
            obtain ⟨⟨h1, h2⟩, h3⟩ := hbb
            have h1 : n * ev.size ≤ 16777216 := Nat.le_of_ble_eq_true h1
            have h2 := beq_eq h2
            have h3 : 0 < ev.size := Nat.le_of_ble_eq_true h3
            split at hb
            · rename_i c hc
              cases hb
              have hz := ((VRel.plain (β := β) 10 _ (hV el ev hev).zero)).cells
              obtain ⟨d', h4, h5⟩ := fill_run _ (fun i => some (i * ev.size, ev.size)) (fun i x h => h) ps ps' _ _ _ hc (hz.reps n) hp
              simp only [mkOf, Heap.get_push] at e
              simp only [if_true] at e
              cases e
              refine ⟨c, d', el, rfl, rfl, h5, ?_⟩
              unfold Instr.buildSlice
              simp only [Sem.run_bind, run_underlying hu, Result.andThen_ok, ty_size hV w hev]
              have h16 : ¬ (n * ev.size > 2 ^ 24) := by
                rw [show (2 : Nat) ^ 24 = 16777216 from rfl]; omega
              simp only [if_neg h16]
              by_cases h0 : n * ev.size = 0
              · rw [if_pos h0]
                simp only [Sem.run_bind, Sem.run_pure, Result.andThen_ok, zeros_none n ev.size h3 h0 ev.zero.cells.toList, h4, newRow, run_newObj]
                rfl
              · rw [if_neg h0]
                have hze : ((Array.range (n * ev.size)).map fun i => ev.zero.cells[i % ev.zero.cells.size]!) = ⟨View.reps ev.zero.cells.toList n⟩ := by
                  rw [← h2]; exact zeros_eq _ (by omega) n
                simp only [Sem.run_bind, ty_zero hV w hev, Result.andThen_ok, Sem.run_pure, hze, h4, newRow, run_newObj]
                rfl
            · cases hb
          · cases hb
        · cases hb
      · cases hb

include hV in
theorem mk_makeSlice {t : TypeId} {l c l' c' : Value} {b : AObj} {f : Nat → Value} (e : mkOf (V.makeSlice ⟨.leaf, 0⟩ t l c) = some (b, f)) (hl : VRel β l l') (hc : VRel β c c') :
    ∃ z z' el n m, b = .cells true 0 z ∧ f = (fun id => .slice (some ⟨id, 0, none⟩) n (View.exactly m)) ∧ n ≤ m ∧ LRel β z z' ∧ (Instr.makeSlice t l' c').run P w = .ok (.slice (some ⟨w.heap.size, 0, none⟩) n m) (w.alloc (.cells ⟨z'⟩ el)) := by
  cases hb : V.makeSlice ⟨.leaf, 0⟩ t l c with
  | none => rw [hb] at e; cases e
  | some p =>
    obtain ⟨v, H'⟩ := p
    rw [hb] at e
    unfold View.makeSlice at hb
    split at hb
    · rename_i tv k l k2 c ht
      cases hl; cases hc
      have hu := (hV t tv ht).under
      split at hb
      · rename_i el hdsc
        rw [hdsc] at hu
        split at hb
        · rename_i ev hev
          split at hb
          · rename_i hbb
            cases hb
            simp only [Bool.and_eq_true, decide_eq_true_eq] at hbb
            obtain ⟨⟨⟨⟨⟨h0, h1⟩, h2⟩, h3⟩, h4⟩, h5⟩ := hbb
            have h3 : ev.bytes ≤ 65536 := Nat.le_of_ble_eq_true h3
            have h4 := beq_eq h4
            have h5 : 0 < ev.size := Nat.le_of_ble_eq_true h5
            obtain ⟨i, hi, hib⟩ := ty_info hV w hev
            have wl : IntKind.i64.wrap l = l := wrap_small h0 (by omega)
            have wc : IntKind.i64.wrap c = c := wrap_small (by omega) h2
            have hmul : (i.bytes : Int) * c ≤ 281474976710656 := by rw [hib]; exact mul_small h3 (by omega) h2
            have hz := (((VRel.plain (β := β) 10 _ (hV el ev hev).zero)).cells).reps c.toNat
            simp only [mkOf, Heap.get_push] at e
            simp only [if_true] at e
            cases e
            refine ⟨_, _, el, l.toNat, c.toNat, rfl, rfl, by omega, hz, ?_⟩
            unfold Instr.makeSlice
            simp only [Sem.run_bind, run_underlying hu, Result.andThen_ok, asInt, asIntOf, Sem.run_pure, hi, wl, wc]
            have e48 : (2 : Int) ^ 48 = 281474976710656 := by decide
            rw [e48]
            have hcond : ((decide (c < 0) || decide ((i.bytes : Int) * c > 281474976710656)) || decide (l < 0) || decide (l > c)) = false := by
              simp only [Bool.or_eq_false_iff, decide_eq_false_iff_not]
              omega
            simp only [hcond, Bool.false_eq_true, if_false, Sem.run_bind, run_askRoom, Result.andThen_ok, ty_size hV w hev]
            by_cases h0' : c.toNat * ev.size = 0
            · rw [if_pos h0']
              simp only [Sem.run_bind, Sem.run_pure, Result.andThen_ok, zeros_none c.toNat ev.size h5 h0' ev.zero.cells.toList, newRow, run_newObj]
              rfl
            · rw [if_neg h0']
              have hze : ((Array.range (c.toNat * ev.size)).map fun i => ev.zero.cells[i % ev.zero.cells.size]!) = ⟨View.reps ev.zero.cells.toList c.toNat⟩ := by
                rw [← h4]; exact zeros_eq _ (by omega) _
              simp only [Sem.run_bind, ty_zero hV w hev, Result.andThen_ok, Sem.run_pure, hze, newRow, run_newObj]
              rfl
          · cases hb
        · cases hb
      · cases hb
    · cases hb

include hV in
theorem mk_sim {ρ ρ' : Operand → Value} {o : Oper} {b : AObj} {f : Nat → Value} (e : V.mk' ρ o.op = some (b, f)) (hρ : ∀ x, x ∈ o.op.operands.toList → VRel β (ρ x) (ρ' x)) : Makes β w ((execOp ρ' o).run P w) b f := by
  obtain ⟨dst, op, ty, pos, after, guard⟩ := o
  simp only at e hρ
  cases op <;> simp only [View.mk'] at e <;> first | (cases e; done) | skip
  case alloc el =>
    split at e
    · rename_i ev hev
      cases e
      have hz := (VRel.plain (β := β) 10 _ (hV el ev hev).zero).cells
      refine ⟨rfl, .cells ⟨ev.zero.cells.toList⟩ el, ⟨w.heap.size, 0, ev.zero.cells.toList.length, 0⟩, .pointer (some ⟨w.heap.size, 0, none⟩), ?_, rfl, fun ok => ORel.row hz _ el, fun β' id h => .ptr (o := 0) h⟩
      simp only [execOp, Instr.alloc, Sem.run_bind, ty_zero hV w hev, Result.andThen_ok, newVar, newRow, run_newObj, Sem.run_pure]
      rfl
    · cases e
  case box el x =>
    cases e
    have hz := (hρ x (by simp [Op.operands])).cells
    refine ⟨rfl, .cells ⟨(ρ' x).cells.toList⟩ el, ⟨w.heap.size, 0, (ρ x).cells.toList.length, 0⟩, .pointer (some ⟨w.heap.size, 0, none⟩), ?_, rfl, fun ok => ORel.row hz _ el, fun β' id h => .ptr (o := 0) h⟩
    simp only [execOp, Instr.box, newVar, newRow, Sem.run_bind, run_newObj, Result.andThen_ok, Sem.run_pure]
    rfl
  case buildSlice t n ps =>
    have hp := PRel.map (β := β) ps ρ ρ' (fun x hx => hρ x (by simpa [Op.operands] using hx))
    obtain ⟨c, c', el, rfl, rfl, h1, h2⟩ := mk_buildSlice hV (w := w) e hp
    have h2' : (Instr.buildSlice t n (ps.map fun p => (p.1, ρ' p.2))).run P w = .ok (.slice (some ⟨w.heap.size, 0, none⟩) n n) (w.alloc (.cells ⟨c'⟩ el)) := h2
    exact ⟨rfl, _, ⟨w.heap.size, 0, c.length, 0⟩, _, by simp only [execOp, Sem.run_bind, h2', Result.andThen_ok, Sem.run_pure], rfl, fun ok => ORel.row h1 _ el, fun β' id h => VRel.slice_exactly h (Nat.le_refl _) (.inl rfl)⟩
  case makeSlice t l c =>
    obtain ⟨z, z', el, n, m, rfl, rfl, h0, h1, h2⟩ := mk_makeSlice hV (w := w) e (hρ l (by simp [Op.operands])) (hρ c (by simp [Op.operands]))
    exact ⟨rfl, _, ⟨w.heap.size, 0, z.length, 0⟩, _, by simp only [execOp, Sem.run_bind, h2, Result.andThen_ok, Sem.run_pure], rfl, fun ok => ORel.row h1 _ el, fun β' id h => VRel.slice_exactly h h0 (.inl rfl)⟩
  case makeMap t r =>
    cases r with
    | none =>
      simp only at e
      cases e
      refine ⟨rfl, .map #[] 0, ⟨w.heap.size, 0, 0, 0⟩, .map (some w.heap.size), ?_, rfl, fun ok => .map MRel.nil, fun β' id h => .map h⟩
      simp only [execOp, Instr.makeMap, Option.map_none, Sem.run_bind, Sem.run_pure, Result.andThen_ok, run_newObj]
      rfl
    | some x =>
      simp only at e
      split at e
      · rename_i hmt hx
        cases e
        have hu := map_under hV hmt
        have hx' := hρ x (by simp [Op.operands])
        rw [hx] at hx'
        have hx2 : ∃ k n, ρ' x = .int k n := by cases hh : ρ' x <;> rw [hh] at hx' <;> cases hx'; exact ⟨_, _, rfl⟩
        obtain ⟨k, n, hx2⟩ := hx2
        refine ⟨rfl, .map #[] 0, ⟨w.heap.size, 0, 0, 0⟩, .map (some w.heap.size), ?_, rfl, fun ok => .map MRel.nil, fun β' id h => .map h⟩
        simp only [execOp, Instr.makeMap, Option.map_some, hx2, Sem.run_bind, run_underlying hu, asInt, asIntOf, Sem.run_pure, Result.andThen_ok, run_newObj]
        rfl
      · cases e
end
end
end Go.Sp

-- Sp.Plan3
/-! A region that draws its order: what its work here says of each operation. -/
namespace Go.Sp
noncomputable section

theorem sameV_sound : ∀ (n : Nat), (∀ u v, sameV n u v = true → u = v) ∧ (∀ l m, sameV.sameL n l m = true → l = m) := by
  have lists : ∀ n, (∀ u v, sameV n u v = true → u = v) → ∀ l m, sameV.sameL n l m = true → l = m := by
    intro n h l
    induction l with
    | nil => intro m e; cases m with
      | nil => rfl
      | cons y ys => simp [sameV.sameL] at e
    | cons x xs ih => intro m e; cases m with
      | nil => simp [sameV.sameL] at e
      | cons y ys =>
        simp only [sameV.sameL, Bool.and_eq_true] at e
        rw [h _ _ e.1, ih _ e.2]
  intro n
  induction n with
  | zero => exact ⟨fun u v e => by simp [sameV] at e, lists 0 fun u v e => by simp [sameV] at e⟩
  | succ n ih =>
    have arr : ∀ a b : Array Value, sameV.sameL n a.toList b.toList = true → a = b := fun a b e => Array.ext' (ih.2 _ _ e)
    have main : ∀ u v, sameV (n + 1) u v = true → u = v := by
      intro u v e
      unfold sameV at e
      split at e
      · rw [eq_of_beq e]
      · simp only [Bool.and_eq_true, decide_eq_true_eq] at e; rw [e.1, eq_of_beq e.2]
      · rename_i a b
        have := eq_of_beq e
        have h2 : a.data = b.data := Array.ext' this
        have : a = b := by cases a; cases b; simp at h2; rw [h2]
        rw [this]
      · rfl
      · rw [of_decide_eq_true e]
      · simp only [Bool.and_eq_true] at e; rw [beq_eq e.1, beq_eq e.2]
      · simp only [Bool.and_eq_true, decide_eq_true_eq] at e; rw [e.1.1, beq_eq e.1.2, beq_eq e.2]
      · rfl
      · rw [beq_eq e]
      · rfl
      · rfl
      · simp only [Bool.and_eq_true, decide_eq_true_eq] at e; rw [e.1.1, arr _ _ e.1.2, arr _ _ e.2]
      · rw [arr _ _ e]
      · rw [arr _ _ e]
      · cases e
    exact ⟨main, lists _ main⟩

theorem sameAt_sound {V : View} {ρ : Operand → Value} {o : Oper} {v : Value} : ∀ (hs : List Heap), sameAt V ρ o v hs = true → ∀ h, h ∈ hs → ∃ h', V.op ρ h o.op = some (.val v h')
  | [], _, h, hm => by simp at hm
  | H :: hs, e, h, hm => by
    simp only [sameAt, Bool.and_eq_true] at e
    rcases List.mem_cons.1 hm with hm | hm
    · subst hm
      obtain ⟨e1, _⟩ := e
      split at e1
      · rename_i u h' hu
        have := (sameV_sound 10).1 _ _ e1
        subst this
        exact ⟨h', hu⟩
      · cases e1
    · exact sameAt_sound hs e.2 h hm

theorem peek_sound {V : View} {ρ : Operand → Value} {o : Oper} {v : Value} {hs : List Heap} (e : peek V ρ o hs = some v) : ∀ h, h ∈ hs → ∃ h', V.op ρ h o.op = some (.val v h') := by
  intro h hm
  unfold peek at e
  split at e
  · cases e
  · rename_i H Hs
    split at e
    · rename_i u h' hu
      split at e
      · rename_i hs2
        cases e
        rcases List.mem_cons.1 hm with hm | hm
        · subst hm; exact ⟨h', hu⟩
        · exact sameAt_sound Hs hs2 h hm
      · cases e
    · cases e

theorem pickL_sound {α : Type} (l : List α) : ∀ (is : List Nat) (r : List α), pickL l is = some r → ∀ i, i ∈ is → ∃ x, l[i]? = some x ∧ x ∈ r
  | [], r, _, i, hi => by simp at hi
  | j :: is, r, e, i, hi => by
    simp only [pickL] at e
    split at e
    · rename_i x xs hx hxs
      cases e
      rcases List.mem_cons.1 hi with hi | hi
      · subst hi; exact ⟨x, hx, by simp⟩
      · obtain ⟨y, h1, h2⟩ := pickL_sound l is xs hxs i hi
        exact ⟨y, h1, by simp [h2]⟩
    · cases e

def memB (n : Nat) : List Nat → Bool
  | [] => false
  | m :: l => Nat.beq n m || memB n l
theorem memB_iff (n : Nat) (l : List Nat) : memB n l = true ↔ n ∈ l := by
  induction l with
  | nil => simp [memB]
  | cons m l ih =>
    simp only [memB, Bool.or_eq_true, List.mem_cons, ih]
    exact ⟨fun h => h.imp beq_eq id, fun h => h.imp (fun e => by rw [e]; exact beq_same _) id⟩

/-- The slots that an operation looks at. -/
def opTmps (o : Oper) : List Tmp := o.op.operands.toList.filterMap fun | .tmp t => some t | _ => none
def guardTmp (all : List Oper) (o : Oper) : List Tmp :=
  match o.guard with
  | none => []
  | some (j, _) => match all[j]? with
    | some p => p.dst.toList
    | none => []
def looksAt (all : List Oper) (o : Oper) : List Tmp := opTmps o ++ guardTmp all o
def dstOf (all : List Oper) (s : Step) : List Tmp := match all[s.op]? with
  | some o => o.dst.toList
  | none => []
def dstsOf (all : List Oper) (l : List Step) : List Tmp := l.flatMap (dstOf all)

/-- Nobody writes later what was looked at or written. -/
def lateOk (all : List Oper) : List Step → Bool
  | [] => true
  | s :: rest => (match all[s.op]? with
    | some o => (looksAt all o).all (fun t => !memB t (dstsOf all (s :: rest))) && o.dst.toList.all (fun t => !memB t (dstsOf all rest))
    | none => false) && lateOk all rest

theorem wanted_look (all : List Oper) (env : T Value) (o : Oper) : wantedA all env o = (match o.guard with
    | none => true
    | some (j, want) => match all[j]? with
      | some p => match p.dst with
        | some d => match look env (.tmp d) with
          | .bool b => b == want
          | _ => false
        | none => false
      | none => false) := by
  unfold wantedA
  cases o.guard with
  | none => rfl
  | some g =>
    obtain ⟨j, want⟩ := g
    simp only
    cases all[j]? with
    | none => rfl
    | some p =>
      simp only
      cases p.dst with
      | none => rfl
      | some d =>
        simp only [look]
        cases env.get d with
        | none => rfl
        | some v => cases v <;> rfl

theorem wanted_same {all : List Oper} {env env' : T Value} {o : Oper} (h : ∀ t, t ∈ guardTmp all o → look env (.tmp t) = look env' (.tmp t)) : wantedA all env o = wantedA all env' o := by
  rw [wanted_look, wanted_look]
  unfold guardTmp at h
  cases hg : o.guard with
  | none => rfl
  | some g =>
    obtain ⟨j, want⟩ := g
    rw [hg] at h
    simp only at h ⊢
    cases hj : all[j]? with
    | none => rfl
    | some p =>
      rw [hj] at h
      simp only at h ⊢
      cases hd : p.dst with
      | none => rfl
      | some d =>
        simp only
        rw [h d (by simp [hd])]

theorem putDst_look {nt : Nat} {o : Oper} {v : Value} {env env' : T Value} (e : putDst nt o v env = some env') :
    (∀ d, o.dst = some d → look env' (.tmp d) = v) ∧ (∀ t, t ∉ o.dst.toList → look env' (.tmp t) = look env (.tmp t)) := by
  unfold putDst at e
  cases hd : o.dst with
  | none => rw [hd] at e; cases e; exact ⟨fun d h => by simp at h, fun t _ => rfl⟩
  | some d =>
    rw [hd] at e
    dsimp only at e
    split at e
    · cases e
      refine ⟨fun d' h => ?_, fun t h => ?_⟩
      · cases h; simp [look, T.get_set_same]
      · have : t ≠ d := by intro hh; subst hh; simp at h
        simp [look, T.get_set_other _ _ _ _ this]
    · cases e
end
end Go.Sp

-- Sp.Plan4
/-! The trace of a region that draws its order. -/
namespace Go.Sp
noncomputable section

structure Rec where
  op : Nat
  loud : Bool
  again : List Nat
  o : Oper
  wanted : Bool
  v : Value
  al : Option AObj
  ρ : Operand → Value

def Rec.next (base : Nat) (r : Rec) (H : Heap) : Heap := match r.al with
  | some b => H.upd (base + r.op) b
  | none => H

section
variable (V : View) (n base nt : Nat) (all : List Oper) (hsF : List Heap) (envF : T Value)

structure RecOk (r : Rec) : Prop where
  op : all[r.op]? = some r.o
  rho : ∀ x, x ∈ r.o.op.operands.toList → r.ρ x = look envF x
  wanted : wantedA all envF r.o = r.wanted
  val : ∀ d, r.o.dst = some d → look envF (.tmp d) = r.v ∧ d < nt
  not : r.wanted = false → r.v = undef
  quiet : r.loud = false → r.wanted = true →
    (∃ b f, V.mk' r.ρ r.o.op = some (b, f) ∧ r.al = some b ∧ r.v = f (base + r.op)) ∨
    (r.al = none ∧ ∀ H, V.op r.ρ H r.o.op = some (.val r.v H)) ∨
    (r.al = none ∧ mkOp r.o.op = false ∧ pureOp r.o.op = false ∧ ∀ e, e ∈ r.again → ∃ h, hsF[e]? = some h ∧ ∀ H2, Sub h H2 → V.op r.ρ H2 r.o.op = some (.val r.v H2))
  al : r.al ≠ none → r.loud = false ∧ mkOp r.o.op = true ∧ r.wanted = true

def Loud (r : Rec) (H Ha : Heap) : Prop := (r.wanted = false ∧ Ha = H) ∨ (r.wanted = true ∧ (V.op r.ρ H r.o.op = some (.val r.v Ha) ∨
  (∃ m f args H1, m ≤ n ∧ V.op r.ρ H r.o.op = some (.enter f args H1) ∧ run V m (.call f args) H1 = some (.val r.v Ha)) ∨
  (∃ m l args H1, m ≤ n ∧ V.op r.ρ H r.o.op = some (.yield l args H1) ∧ run V m (.yield l args) H1 = some (.val r.v Ha))))

def Tr : List Rec → Nat → Heap → Heap → Prop
  | [], _, H, HF => H = HF
  | r :: rs, e, H, HF => (r.loud = true ∧ ∃ Ha, Loud V n r H Ha ∧ hsF[e + 1]? = some Ha ∧ Tr rs (e + 1) Ha HF) ∨ (r.loud = false ∧ Tr rs e (r.next base H) HF)
end

theorem Loud.mono {V : View} {n n' : Nat} (hn : n ≤ n') {r : Rec} {H Ha : Heap} (h : Loud V n r H Ha) : Loud V n' r H Ha := by
  rcases h with h | ⟨h1, h | ⟨m, f, args, H1, a, b⟩ | ⟨m, f, args, H1, a, b⟩⟩
  · exact .inl h
  · exact .inr ⟨h1, .inl h⟩
  · exact .inr ⟨h1, .inr (.inl ⟨m, f, args, H1, Nat.le_trans a hn, b⟩)⟩
  · exact .inr ⟨h1, .inr (.inr ⟨m, f, args, H1, Nat.le_trans a hn, b⟩)⟩

theorem Tr.mono {V : View} {n n' base : Nat} {hsF : List Heap} (hn : n ≤ n') : ∀ (rs : List Rec) (e : Nat) (H HF : Heap), Tr V n base hsF rs e H HF → Tr V n' base hsF rs e H HF
  | [], _, _, _, h => h
  | r :: rs, e, H, HF, h => by
    rcases h with ⟨h1, Ha, h2, h3, h4⟩ | ⟨h1, h2⟩
    · exact .inl ⟨h1, Ha, h2.mono hn, h3, Tr.mono hn rs _ _ _ h4⟩
    · exact .inr ⟨h1, Tr.mono hn rs _ _ _ h2⟩

def stepOf (r : Rec) : Step := ⟨r.op, r.again, r.loud⟩

theorem prefix_get {α : Type} {l m : List α} (h : l <+: m) {i : Nat} {x : α} (e : l[i]? = some x) : m[i]? = some x := by
  obtain ⟨t, rfl⟩ := h
  have : i < l.length := by
    rcases Nat.lt_or_ge i l.length with h | h
    · exact h
    · rw [List.getElem?_eq_none h] at e; cases e
  rw [List.getElem?_append_left this]; exact e

theorem traceOf {V : View} {fn : FuncId} {nt base : Nat} {ro : Option Nat} {all : List Oper} {x : AExit} {envF : T Value} {HF : Heap} : ∀ (todo : List Step) (n : Nat) (hs : List Heap) (env : T Value) (H : Heap), lateOk all todo = true →
    run V n (.plan fn nt ro base all todo hs env) H = some (.code x envF HF) → hs ≠ [] →
    x = .normal ∧ (∀ t, t ∉ dstsOf all todo → look envF (.tmp t) = look env (.tmp t)) ∧
    ∃ recs hsF, recs.map stepOf = todo ∧ hs <+: hsF ∧ (∀ r, r ∈ recs → RecOk V base nt all hsF envF r) ∧ Tr V n base hsF recs (hs.length - 1) H HF := by
  intro todo
  induction todo with
  | nil =>
    intro n hs env H _ hrun _
    cases n with
    | zero => simp [run] at hrun
    | succ n =>
      simp only [run] at hrun
      cases hrun
      exact ⟨rfl, fun _ _ => rfl, [], hs, rfl, List.prefix_refl _, fun r h => by simp at h, rfl⟩
  | cons s rest ih =>
    intro n hs env H hlate hrun hne
    cases n with
    | zero => simp [run] at hrun
    | succ n =>
      have hlen : 0 < hs.length := List.length_pos_iff.2 hne
      simp only [lateOk, Bool.and_eq_true] at hlate
      obtain ⟨hl1, hl2⟩ := hlate
      simp only [run] at hrun
      cases ho : all[s.op]? with
      | none => rw [ho] at hl1; cases hl1
      | some o =>
        rw [ho] at hl1 hrun
        simp only [Bool.and_eq_true, List.all_eq_true, Bool.not_eq_true'] at hl1
        obtain ⟨hl3, hl4⟩ := hl1
        have hlook : ∀ t, t ∈ looksAt all o → t ∉ dstsOf all (s :: rest) := fun t ht h => by
          have := hl3 t ht; rw [(memB_iff _ _).2 h] at this; cases this
        have hdst : ∀ t, t ∈ o.dst.toList → t ∉ dstsOf all rest := fun t ht h => by
          have := hl4 t ht; rw [(memB_iff _ _).2 h] at this; cases this
        have hds : dstsOf all (s :: rest) = o.dst.toList ++ dstsOf all rest := by simp [dstsOf, dstOf, ho]
        -- what is known of what comes later
        have tail : ∀ (v : Value) (env1 : T Value), putDst nt o v env = some env1 → (∀ t, t ∉ dstsOf all rest → look envF (.tmp t) = look env1 (.tmp t)) →
            (∀ t, t ∉ dstsOf all (s :: rest) → look envF (.tmp t) = look env (.tmp t)) ∧ (∀ x, x ∈ o.op.operands.toList → look env x = look envF x) ∧ wantedA all envF o = wantedA all env o ∧
            (∀ d, o.dst = some d → look envF (.tmp d) = v ∧ d < nt) := by
          intro v env1 hp h
          obtain ⟨p1, p2⟩ := putDst_look hp
          have k1 : ∀ t, t ∉ dstsOf all (s :: rest) → look envF (.tmp t) = look env (.tmp t) := by
            intro t ht
            rw [hds, List.mem_append, not_or] at ht
            rw [h t ht.2, p2 t ht.1]
          refine ⟨k1, ?_, ?_, ?_⟩
          · intro x hx
            cases x with
            | tmp t =>
              have : t ∈ looksAt all o := by
                simp only [looksAt, List.mem_append, opTmps, List.mem_filterMap]
                exact .inl ⟨.tmp t, hx, rfl⟩
              exact (k1 t (hlook t this)).symm
            | const v => rfl
            | global g => rfl
            | func f => rfl
          · refine wanted_same fun t ht => k1 t (hlook t ?_)
            simp only [looksAt, List.mem_append]
            exact .inr ht
          · intro d hd
            rw [h d (hdst d (by simp [hd]))]
            refine ⟨p1 d hd, ?_⟩
            unfold putDst at hp
            rw [hd] at hp
            dsimp only at hp
            split at hp
            · rename_i hlt; exact Nat.le_of_ble_eq_true hlt
            · cases hp
        -- a quiet operation
        have quiet : ∀ (v : Value) (env1 : T Value) (al : Option AObj), s.loud = false → putDst nt o v env = some env1 → run V n (.plan fn nt ro base all rest hs env1) ((match al with | some b => H.upd (base + s.op) b | none => H)) = some (.code x envF HF) →
            (∀ hsF, hs <+: hsF → (wantedA all env o = false → v = undef) ∧ (wantedA all env o = true →
              (∃ b f, V.mk' (look env) o.op = some (b, f) ∧ al = some b ∧ v = f (base + s.op)) ∨ (al = none ∧ ∀ H, V.op (look env) H o.op = some (.val v H)) ∨
              (al = none ∧ mkOp o.op = false ∧ pureOp o.op = false ∧ ∀ e, e ∈ s.again → ∃ h, hsF[e]? = some h ∧ ∀ H2, Sub h H2 → V.op (look env) H2 o.op = some (.val v H2)))) →
            (al ≠ none → mkOp o.op = true ∧ wantedA all env o = true) →
            x = .normal ∧ (∀ t, t ∉ dstsOf all (s :: rest) → look envF (.tmp t) = look env (.tmp t)) ∧
            ∃ recs hsF, recs.map stepOf = s :: rest ∧ hs <+: hsF ∧ (∀ r, r ∈ recs → RecOk V base nt all hsF envF r) ∧ Tr V (n + 1) base hsF recs (hs.length - 1) H HF := by
          intro v env1 al hq hp hr hfacts hal
          obtain ⟨i1, i2, recs, hsF, i3, i4, i5, i6⟩ := ih n hs env1 _ hl2 hr hne
          obtain ⟨t1, t2, t3, t4⟩ := tail v env1 hp i2
          refine ⟨i1, t1, ⟨s.op, s.loud, s.again, o, wantedA all env o, v, al, look env⟩ :: recs, hsF, by simp [stepOf, i3], i4, ?_, ?_⟩
          · intro r hr
            rcases List.mem_cons.1 hr with hr | hr
            · subst hr
              exact ⟨ho, t2, t3, t4, (hfacts hsF i4).1, fun _ => (hfacts hsF i4).2, fun h => ⟨hq, hal h⟩⟩
            · exact i5 r hr
          · refine .inr ⟨hq, ?_⟩
            refine Tr.mono (Nat.le_succ n) _ _ _ _ ?_
            simp only [Rec.next]
            exact i6
        -- a loud one
        have loud : ∀ (v : Value) (env1 : T Value) (Ha : Heap), s.loud = true → putDst nt o v env = some env1 → run V n (.plan fn nt ro base all rest (hs ++ [Ha]) env1) Ha = some (.code x envF HF) →
            Loud V n ⟨s.op, s.loud, s.again, o, wantedA all env o, v, none, look env⟩ H Ha → (wantedA all env o = false → v = undef) →
            x = .normal ∧ (∀ t, t ∉ dstsOf all (s :: rest) → look envF (.tmp t) = look env (.tmp t)) ∧
            ∃ recs hsF, recs.map stepOf = s :: rest ∧ hs <+: hsF ∧ (∀ r, r ∈ recs → RecOk V base nt all hsF envF r) ∧ Tr V (n + 1) base hsF recs (hs.length - 1) H HF := by
          intro v env1 Ha hq hp hr hloud hu
          obtain ⟨i1, i2, recs, hsF, i3, i4, i5, i6⟩ := ih n (hs ++ [Ha]) env1 _ hl2 hr (by simp)
          obtain ⟨t1, t2, t3, t4⟩ := tail v env1 hp i2
          refine ⟨i1, t1, ⟨s.op, s.loud, s.again, o, wantedA all env o, v, none, look env⟩ :: recs, hsF, by simp [stepOf, i3], (List.prefix_append hs [Ha]).trans i4, ?_, ?_⟩
          · intro r hr
            rcases List.mem_cons.1 hr with hr | hr
            · subst hr
              exact ⟨ho, t2, t3, t4, hu, (fun h => by simp only at h; rw [hq] at h; cases h), fun h => absurd rfl h⟩
            · exact i5 r hr
          · have hsz : hs.length - 1 + 1 = hs.length := by omega
            refine .inl ⟨hq, Ha, hloud.mono (Nat.le_succ n), ?_, ?_⟩
            · rw [hsz]
              exact prefix_get i4 (by simp)
            · rw [hsz]
              have : (hs ++ [Ha]).length - 1 = hs.length := by simp
              rw [this] at i6
              exact Tr.mono (Nat.le_succ n) _ _ _ _ i6
        dsimp only at hrun
        split at hrun
        · rename_i hw
          split at hrun
          · rename_i env1 hp
            cases hq : s.loud with
            | false =>
              rw [hq] at hrun
              exact quiet undef env1 none hq hp hrun (fun hsF _ => ⟨fun _ => rfl, fun h => by rw [hw] at h; cases h⟩) (fun h => absurd rfl h)
            | true =>
              rw [hq] at hrun
              exact loud undef env1 H hq hp hrun (.inl ⟨hw, rfl⟩) (fun _ => rfl)
          · cases hrun
        · rename_i hw
          split at hrun
          · rename_i hq
            split at hrun
            · rename_i hmk
              split at hrun
              · rename_i b f hb
                split at hrun
                · rename_i env1 hp
                  exact quiet _ env1 (some b) hq hp hrun (fun hsF _ => ⟨(fun h => by rw [hw] at h; cases h), fun _ => .inl ⟨b, f, hb, rfl, rfl⟩⟩) (fun _ => ⟨hmk, hw⟩)
                · cases hrun
              · cases hrun
            · rename_i hmk
              split at hrun
              · rename_i hpure
                split at hrun
                · rename_i v H1 hv
                  split at hrun
                  · rename_i env1 hp
                    exact quiet _ env1 none hq hp hrun (fun hsF _ => ⟨(fun h => by rw [hw] at h; cases h), fun _ => .inr (.inl ⟨rfl, pure_op hpure hv⟩)⟩) (fun h => absurd rfl h)
                  · cases hrun
                · cases hrun
              · rename_i hpure
                split at hrun
                · rename_i rs2 hst hpick
                  split at hrun
                  · rename_i v hv
                    split at hrun
                    · rename_i env1 hp
                      refine quiet _ env1 none hq hp hrun (fun hsF hpre => ⟨(fun h => by rw [hw] at h; cases h), fun _ => .inr (.inr ⟨rfl, hmk, hpure, fun e he => ?_⟩)⟩) (fun h => absurd rfl h)
                      obtain ⟨h, h1, h2⟩ := pickL_sound hs s.again _ hpick e he
                      obtain ⟨h', h3⟩ := peek_sound hv h h2
                      exact ⟨h, prefix_get hpre h1, still_op hst h3⟩
                    · cases hrun
                  · cases hrun
                · cases hrun
          · rename_i hq
            split at hrun
            · rename_i v H1 hv
              split at hrun
              · rename_i env1 hp
                exact loud v env1 H1 hq hp hrun (.inr ⟨hw, .inl hv⟩) (fun h => by rw [hw] at h; cases h)
              · cases hrun
            · rename_i f args H1 hv
              split at hrun
              · rename_i v H2 hr
                split at hrun
                · rename_i env1 hp
                  exact loud v env1 H2 hq hp hrun (.inr ⟨hw, .inr (.inl ⟨n, f, args, H1, Nat.le_refl _, hv, hr⟩)⟩) (fun h => by rw [hw] at h; cases h)
                · cases hrun
              · cases hrun
            · rename_i l args H1 hv
              split at hrun
              · rename_i v H2 hr
                split at hrun
                · rename_i env1 hp
                  exact loud v env1 H2 hq hp hrun (.inr ⟨hw, .inr (.inr ⟨n, l, args, H1, Nat.le_refl _, hv, hr⟩)⟩) (fun h => by rw [hw] at h; cases h)
                · cases hrun
              · cases hrun
            · cases hrun
end
end Go.Sp

-- Sp.Plan5
/-! What is asked of a region that draws its order, and of the order in which it is done here. -/
namespace Go.Sp
noncomputable section

def Pred (all : List Oper) (j i : Nat) : Prop := ∃ (o : Oper) (e : Edge), all[i]? = some o ∧ e ∈ o.after.toList ∧ Region.binds .any e = true ∧ e.on = j

inductive Anc (all : List Oper) : Nat → Nat → Prop
  | one {j i : Nat} : Pred all j i → Anc all j i
  | step {j k i : Nat} : Anc all j k → Pred all k i → Anc all j i

theorem Anc.listed {all : List Oper} {S : Nat → Prop} (hc : ∀ i, S i → ∀ j, Pred all j i → S j) {j i : Nat} (h : Anc all j i) : (∀ k, Pred all k i → S k) → S j := by
  induction h with
  | one p => exact fun h => h _ p
  | step _ p ih => exact fun h => ih fun k hk => hc _ (h _ p) _ hk

def maskOf (tr : T Nat) : List Edge → Nat → Nat
  | [], m => m
  | e :: es, m => maskOf tr es (match Region.binds .any e with
    | true => m ||| 2 ^ e.on ||| (match tr.get e.on with
      | some x => x
      | none => 0)
    | false => m)
def ancMasks : List Oper → Nat → T Nat → T Nat
  | [], _, tr => tr
  | o :: os, i, tr => ancMasks os (i + 1) (tr.set i (maskOf tr o.after.toList 0))
def ancB (tr : T Nat) (j i : Nat) : Bool := match tr.get i with
  | some m => Nat.testBit m j
  | none => false

theorem maskOf_sound (tr : T Nat) (j : Nat) : ∀ (es : List Edge) (m : Nat), (maskOf tr es m).testBit j = true →
    m.testBit j = true ∨ ∃ e, e ∈ es ∧ Region.binds .any e = true ∧ (e.on = j ∨ ∃ x, tr.get e.on = some x ∧ x.testBit j = true)
  | [], m, h => .inl h
  | e :: es, m, h => by
    simp only [maskOf] at h
    rcases maskOf_sound tr j es _ h with h | ⟨e', h1, h2⟩
    · split at h
      · rename_i hb
        rw [Nat.testBit_or, Nat.testBit_or] at h
        simp only [Bool.or_eq_true] at h
        rcases h with (h | h) | h
        · exact .inl h
        · rw [Nat.testBit_two_pow] at h
          exact .inr ⟨e, by simp, hb, .inl (of_decide_eq_true h)⟩
        · split at h
          · rename_i x hx
            exact .inr ⟨e, by simp, hb, .inr ⟨x, hx, h⟩⟩
          · simp at h
      · exact .inl h
    · exact .inr ⟨e', by simp [h1], h2⟩

theorem ancMasks_sound (all : List Oper) : ∀ (os pre : List Oper) (tr : T Nat), all = pre ++ os → (∀ i j x, tr.get i = some x → x.testBit j = true → Anc all j i) →
    ∀ i j x, (ancMasks os pre.length tr).get i = some x → x.testBit j = true → Anc all j i
  | [], pre, tr, _, h => h
  | o :: os, pre, tr, ha, h => by
    simp only [ancMasks]
    have hlen : pre.length + 1 = (pre ++ [o]).length := by simp
    rw [hlen]
    refine ancMasks_sound all os (pre ++ [o]) _ (by rw [ha]; simp) ?_
    intro i j x hx hj
    rw [T.get_set] at hx
    split at hx
    · rename_i hi
      cases hx
      have ho : all[i]? = some o := by rw [ha, hi]; simp
      rcases maskOf_sound tr j _ _ hj with h1 | ⟨e, h1, h2, h3⟩
      · simp at h1
      · rcases h3 with h3 | ⟨y, h3, h4⟩
        · exact .one ⟨o, e, ho, h1, h2, h3⟩
        · exact .step (h _ _ _ h3 h4) ⟨o, e, ho, h1, h2, rfl⟩
    · exact h i j x hx hj

theorem ancB_sound {all : List Oper} {j i : Nat} (h : ancB (ancMasks all 0 .leaf) j i = true) : Anc all j i := by
  unfold ancB at h
  split at h
  · rename_i m hm
    exact ancMasks_sound all all [] .leaf rfl (fun i j x e => by rw [T.get_leaf] at e; cases e) i j m hm h
  · cases h

def pairsB {α : Type} (r : α → α → Bool) : List α → Bool
  | [] => true
  | x :: l => l.all (r x) && pairsB r l
theorem pairsB_sound {α : Type} {r : α → α → Bool} : ∀ (l : List α), pairsB r l = true → l.Pairwise fun x y => r x y = true
  | [], _ => .nil
  | x :: l, h => by
    simp only [pairsB, Bool.and_eq_true, List.all_eq_true] at h
    exact .cons h.1 (pairsB_sound l h.2)

/-- Some of the numbers below n. -/
def allBelow (p : Nat → Bool) : Nat → Bool
  | 0 => true
  | n + 1 => p n && allBelow p n
theorem allBelow_sound {p : Nat → Bool} : ∀ (n : Nat), allBelow p n = true → ∀ i, i < n → p i = true
  | 0, _, i, h => by omega
  | n + 1, e, i, h => by
    simp only [allBelow, Bool.and_eq_true] at e
    rcases Nat.lt_or_ge i n with k | k
    · exact allBelow_sound n e.2 i k
    · have : i = n := by omega
      rw [this]; exact e.1

def loudsOf (plan : List Step) : List Nat := (plan.filter (·.loud)).map (·.op)

/-- Edges lead back. -/
def backB : List Oper → Nat → Bool
  | [], _ => true
  | o :: os, i => o.after.toList.all (fun e => !Region.binds .any e || Nat.blt e.on i) && backB os (i + 1)
theorem backB_sound (all : List Oper) : ∀ (os pre : List Oper), all = pre ++ os → backB os pre.length = true → ∀ i o, pre.length ≤ i → all[i]? = some o → ∀ e, e ∈ o.after.toList → Region.binds .any e = true → e.on < i
  | [], pre, ha, _, i, o, hi, ho, e, he, hb => by
    rw [ha] at ho
    rw [List.getElem?_eq_none (by simpa using hi)] at ho; cases ho
  | o' :: os, pre, ha, h, i, o, hi, ho, e, he, hb => by
    simp only [backB, Bool.and_eq_true, List.all_eq_true] at h
    rcases Nat.lt_or_ge pre.length i with k | k
    · refine backB_sound all os (pre ++ [o']) (by rw [ha]; simp) ?_ i o (by simp only [List.length_append, List.length_singleton]; omega) ho e he hb
      simpa using h.2
    · have : i = pre.length := by omega
      subst this
      rw [ha] at ho
      simp at ho; subst ho
      have := h.1 e he
      simp only [hb, Bool.not_true, Bool.false_or] at this
      exact Nat.le_of_ble_eq_true this

/-- Who writes what an operation looks at is done ahead of it. -/
def readsB (anc : T Nat) (all : List Oper) : Bool :=
  (all.zipIdx).all fun (o, i) => (looksAt all o).all fun t => (all.zipIdx).all fun (p, r) => !memB t p.dst.toList || ancB anc r i

/-- Before a loud operation: all the loud ones and the makers that lie ahead of it here. -/
def beforeB (anc : T Nat) (all : List Oper) (s s' : Step) : Bool :=
  !s'.loud || !(s.loud || (match all[s.op]? with
    | some o => mkOp o.op
    | none => true)) || ancB anc s.op s'.op

def stillB (anc : T Nat) (all : List Oper) (louds : List Nat) (s : Step) : Bool :=
  s.loud || (match all[s.op]? with
    | some o => mkOp o.op || pureOp o.op || allBelow (fun e => memB e s.again || (louds.drop e).any (fun l => ancB anc l s.op) || (louds.take e).any (fun l => ancB anc s.op l)) (louds.length + 1)
    | none => false)

def planB (all : List Oper) (plan : List Step) : Bool :=
  let anc := ancMasks all 0 .leaf
  let louds := loudsOf plan
  lateOk all plan && backB all 0 && pairsB (fun s s' => !Nat.beq s.op s'.op) plan && allBelow (fun i => memB i (plan.map (·.op))) all.length &&
    readsB anc all && pairsB (beforeB anc all) plan && plan.all (stillB anc all louds)

structure PlanOk (all : List Oper) (plan : List Step) : Prop where
  late : lateOk all plan = true
  back : ∀ i o, all[i]? = some o → ∀ e, e ∈ o.after.toList → Region.binds .any e = true → e.on < i
  once : plan.Pairwise fun s s' => s.op ≠ s'.op
  every : ∀ i, i < all.length → i ∈ plan.map (·.op)
  reads : ∀ i o, all[i]? = some o → ∀ t, t ∈ looksAt all o → ∀ r p, all[r]? = some p → p.dst = some t → Anc all r i
  before : plan.Pairwise fun s s' => s'.loud = true → (s.loud = true ∨ ∃ o, all[s.op]? = some o ∧ mkOp o.op = true) → Anc all s.op s'.op
  still : ∀ s, s ∈ plan → ∀ o, all[s.op]? = some o → s.loud = false → mkOp o.op = false → pureOp o.op = false →
    ∀ e, e ≤ (loudsOf plan).length → e ∈ s.again ∨ (∃ l, l ∈ (loudsOf plan).drop e ∧ Anc all l s.op) ∨ ∃ l, l ∈ (loudsOf plan).take e ∧ Anc all s.op l

theorem zipIdx_mem {α : Type} {l : List α} {i : Nat} {x : α} (h : l[i]? = some x) : (x, i) ∈ l.zipIdx := by
  rw [List.mem_zipIdx_iff_getElem?]; exact h

theorem planB_sound {all : List Oper} {plan : List Step} (h : planB all plan = true) : PlanOk all plan := by
  simp only [planB, Bool.and_eq_true] at h
  obtain ⟨⟨⟨⟨⟨⟨h1, h2⟩, h3⟩, h4⟩, h5⟩, h6⟩, h7⟩ := h
  refine ⟨h1, ?_, ?_, ?_, ?_, ?_, ?_⟩
  · intro i o ho e he hb
    exact backB_sound all all [] rfl h2 i o (Nat.zero_le _) ho e he hb
  · refine (pairsB_sound _ h3).imp ?_
    intro s s' h e
    rw [e, beq_same] at h; cases h
  · intro i hi
    exact (memB_iff _ _).1 (allBelow_sound _ h4 i hi)
  · intro i o ho t ht r p hp hd
    simp only [readsB, List.all_eq_true] at h5
    have := h5 _ (zipIdx_mem ho) t ht _ (zipIdx_mem hp)
    simp only [hd, Option.toList_some, Bool.or_eq_true, Bool.not_eq_true'] at this
    rcases this with k | k
    · rw [(memB_iff t [t]).2 (by simp)] at k; cases k
    · exact ancB_sound k
  · refine (pairsB_sound _ h6).imp ?_
    intro s s' h hl hs
    simp only [beforeB, hl, Bool.not_true, Bool.false_or, Bool.or_eq_true, Bool.not_eq_true'] at h
    rcases h with h | h
    · rcases hs with hs | ⟨o, ho, hm⟩
      · rw [hs] at h; cases h
      · rw [ho] at h
        simp only [hm, Bool.or_true] at h
        cases h
    · exact ancB_sound h
  · intro s hs o ho hl hm hp e he
    have := List.all_eq_true.1 h7 s hs
    simp only [stillB, hl, ho, hm, hp, Bool.false_or] at this
    have := allBelow_sound _ this e (by omega)
    simp only [Bool.or_eq_true, List.any_eq_true] at this
    rcases this with (h | ⟨l, h, k⟩) | ⟨l, h, k⟩
    · exact .inl ((memB_iff _ _).1 h)
    · exact .inr (.inl ⟨l, h, ancB_sound k⟩)
    · exact .inr (.inr ⟨l, h, ancB_sound k⟩)
end
end Go.Sp

-- Sp.Plan6
/-! Heaps beside each other. -/
namespace Go.Sp
noncomputable section

section
variable {ok : FuncId → Nat → Code → Prop} {β β' : Ren} {H : Heap} {w w' : World} {base : Nat}

/-- Less is known of the heap. -/
theorem HRel.sub (h : HRel ok β H w base) {A : Heap} (hs : Sub A H) (hn : A.next = H.next) : HRel ok β A w base :=
  ⟨fun b t e => by rw [hn]; exact h.dom b t e, fun b o e => by rw [hn]; exact h.lt b o (hs b o e), fun b o e => h.live b o (hs b o e), fun b o t e => h.own b o t (hs b o e),
    fun b o b' o' t t' e k e' => h.sep b o b' o' t t' (hs b o e) k (hs b' o' e'), h.le⟩

theorem Post.sub {H0 : Heap} {w0 : World} {β0 : Ren} (p : Post β0 H0 w0 β H w) {A : Heap} (hs : Sub A H) (hn : A.next = H.next) : Post β0 H0 w0 β A w :=
  ⟨p.ext, by rw [hn]; exact p.next, p.fresh, p.blk, fun b o hb e => p.old b o hb (hs b o e), p.keep, p.os, p.tape, p.output, p.size⟩

/-- What the work on a part of a heap leaves of the whole. -/
theorem frame {A A' H2 : Heap} (h0 : HRel ok β H w base) (hs : Sub A H) (hn : A.next = H.next) (p : Post β A w β' A' w') (h1 : HRel ok β' A' w' base) (hn2 : H2.next = A'.next)
    (hget : ∀ b o, H2.get b = some o → A'.get b = some o ∨ (H.get b = some o ∧ A.get b = none)) : HRel ok β' H2 w' base ∧ Post β H w β' H2 w' := by
  -- what lies beside the part is not where the part's new things lie
  have apart : ∀ b o b' o' t t', H.get b = some o → A.get b = none → A'.get b' = some o' → (o.own = true ∨ o'.own = true) → β b = some t → β' b' = some t' → t.blk = t'.blk → False := by
    intro b o b' o' t t' e1 e2 e3 e4 e5 e6 e7
    cases hb : β b' with
    | some t0 =>
      have e8 := p.ext b' t0 hb
      rw [e6] at e8; cases e8
      have hlt : b' < A.next := by rw [hn]; exact h0.dom b' _ hb
      obtain ⟨o2, k1, k2⟩ := p.old b' o' hlt e3
      have k3 := hs _ _ k1
      rcases e4 with e4 | e4
      · have := h0.sep b o b' o2 t _ e1 e4 k3 e5 hb e7
        subst this; rw [e2] at k1; cases k1
      · have := h0.sep b' o2 b o _ t k3 (k2 e4) e1 hb e5 e7.symm
        subst this; rw [e2] at k1; cases k1
    | none =>
      rcases p.blk b' t' e6 hb with k | ⟨b0, o0, t0, k1, k2, k3, k4⟩
      · have := h0.lt_size e1 e5
        omega
      · have := h0.sep b0 o0 b o t0 t (hs _ _ k1) k2 e1 k3 e5 (k4.trans e7.symm)
        subst this; rw [e2] at k1; cases k1
  have ren : ∀ b o t, H.get b = some o → β' b = some t → β b = some t := by
    intro b o t e1 e2
    obtain ⟨t0, x, k1, _, _⟩ := h0.live b o e1
    have := p.ext b t0 k1
    rw [e2] at this; cases this
    exact k1
  refine ⟨⟨?_, ?_, ?_, ?_, ?_, h1.le⟩, ⟨p.ext, ?_, ?_, ?_, ?_, ?_, p.os, p.tape, p.output, p.size⟩⟩
  · intro b t e; rw [hn2]; exact h1.dom b t e
  · intro b o e
    rw [hn2]
    rcases hget b o e with k | ⟨k, _⟩
    · exact h1.lt b o k
    · have := h0.lt b o k; have := p.next; omega
  · intro b o e
    rcases hget b o e with k | ⟨k, kn⟩
    · exact h1.live b o k
    · obtain ⟨t, x, k1, k2, k3⟩ := h0.live b o k
      refine ⟨t, x, p.ext b t k1, ?_, k3.mono p.ext⟩
      rw [p.keep t.blk (Array.getElem?_eq_some_iff.1 k2).1 ?_]
      · exact k2
      · intro b0 o0 t0 j1 j2 j3 j4
        have := h0.sep b0 o0 b o t0 t (hs _ _ j1) j2 k j3 k1 j4
        subst this; rw [kn] at j1; cases j1
  · intro b o t e k et
    rcases hget b o e with j | ⟨j, _⟩
    · exact h1.own b o t j k et
    · exact h0.own b o t j k (ren b o t j et)
  · intro b o b' o' t t' e k e' et et' eq
    rcases hget b o e with j | ⟨j, jn⟩
    · rcases hget b' o' e' with j' | ⟨j', jn'⟩
      · exact h1.sep b o b' o' t t' j k j' et et' eq
      · exact (apart b' o' b o t' t j' jn' j (.inr k) (ren b' o' t' j' et') et eq.symm).elim
    · rcases hget b' o' e' with j' | ⟨j', jn'⟩
      · exact (apart b o b' o' t t' j jn j' (.inl k) (ren b o t j et) et' eq).elim
      · exact h0.sep b o b' o' t t' j k j' (ren b o t j et) (ren b' o' t' j' et') eq
  · rw [hn2, ← hn]; exact p.next
  · intro b t e; rw [← hn]; exact p.fresh b t e
  · intro b t e k
    rcases p.blk b t e k with h | ⟨b0, o0, t0, a1, a2⟩
    · exact .inl h
    · exact .inr ⟨b0, o0, t0, hs _ _ a1, a2⟩
  · intro b o hb e
    rcases hget b o e with k | ⟨k, _⟩
    · obtain ⟨o2, k1, k2⟩ := p.old b o (by omega) k
      exact ⟨o2, hs _ _ k1, k2⟩
    · exact ⟨o, k, fun h => h⟩
  · intro k hk hnot
    exact p.keep k hk fun b o t a b' => hnot b o t (hs _ _ a) b'

/-- A block under a name that was kept for it. -/
theorem HRel.put (h : HRel ok β H w base) {b : Nat} (hb : b < H.next) (hn : β b = none) (o : AObj) (x : Obj) (t : Tgt) (ht : t.blk = w.heap.size) (hr : ORel β ok o x t) :
    HRel ok (β.with b t) (H.upd b o) (w.alloc x) base := by
  have le : β.le (β.with b t) := Ren.le_with t hn
  have hg : H.get b = none := by
    cases e : H.get b with
    | none => rfl
    | some o' => obtain ⟨t', _, k, _⟩ := h.live b o' e; rw [hn] at k; cases k
  have other : ∀ {b' o'}, H.get b' = some o' → b' ≠ b := fun e k => by subst k; rw [hg] at e; cases e
  refine ⟨?_, ?_, ?_, ?_, ?_, ?_⟩
  · intro b' u e
    by_cases hb' : b' = b
    · subst hb'; exact hb
    · rw [Ren.with_other _ _ hb'] at e; exact h.dom _ _ e
  · intro b' o' e
    rw [Heap.get_upd] at e
    split at e
    · rename_i hb'; subst hb'; exact hb
    · exact h.lt _ _ e
  · intro b' o' e
    rw [Heap.get_upd] at e
    split at e
    · rename_i hb'; subst hb'; cases e
      exact ⟨t, x, Ren.with_same _ _ _, by rw [ht]; show (w.heap.push x)[w.heap.size]? = _; simp, hr.mono le⟩
    · obtain ⟨u, y, e1, e2, e3⟩ := h.live _ _ e
      refine ⟨u, y, le _ _ e1, ?_, e3.mono le⟩
      have := (Array.getElem?_eq_some_iff.1 e2).1
      show (w.heap.push x)[u.blk]? = _
      rw [Array.getElem?_push, if_neg (by omega)]; exact e2
  · intro b' o' u e k eu
    rw [Heap.get_upd] at e
    split at e
    · rename_i hb'; subst hb'
      rw [Ren.with_same] at eu; cases eu
      rw [ht]; exact h.le
    · rw [Ren.with_other _ _ (other e)] at eu
      exact h.own _ _ _ e k eu
  · intro b1 o1 b2 o2 u1 u2 e1 k e2 eu1 eu2 eq
    rw [Heap.get_upd] at e1 e2
    split at e1
    · rename_i h1
      split at e2
      · rename_i h2; omega
      · rw [Ren.with_other _ _ (other e2)] at eu2
        have := h.lt_size e2 eu2
        rw [h1, Ren.with_same] at eu1; cases eu1
        omega
    · rw [Ren.with_other _ _ (other e1)] at eu1
      split at e2
      · rename_i h2
        have := h.lt_size e1 eu1
        rw [h2, Ren.with_same] at eu2; cases eu2
        omega
      · rw [Ren.with_other _ _ (other e2)] at eu2
        exact h.sep _ _ _ _ _ _ e1 k e2 eu1 eu2 eq
  · rw [World.size_alloc]; have := h.le; omega

theorem Post.put {H0 : Heap} {w0 : World} {β0 : Ren} (p : Post β0 H0 w0 β H w) {b : Nat} (hb : H0.next ≤ b) (hn : β b = none) (o : AObj) (x : Obj) (t : Tgt) (ht : t.blk = w.heap.size) :
    Post β0 H0 w0 (β.with b t) (H.upd b o) (w.alloc x) := by
  refine ⟨Ren.le_trans p.ext (Ren.le_with t hn), p.next, ?_, ?_, ?_, ?_, p.os, p.tape, p.output, ?_⟩
  · intro b' u e
    by_cases hb' : b' = b
    · subst hb'; exact .inr hb
    · rw [Ren.with_other _ _ hb'] at e; exact p.fresh _ _ e
  · intro b' u e k
    by_cases hb' : b' = b
    · subst hb'; rw [Ren.with_same] at e; cases e
      exact .inl (by rw [ht]; exact p.size)
    · rw [Ren.with_other _ _ hb'] at e; exact p.blk _ _ e k
  · intro b' o' hlt e
    rw [Heap.get_upd, if_neg (by omega)] at e
    exact p.old b' o' hlt e
  · intro k hk hnot
    have := p.size
    show (w.heap.push x)[k]? = _
    rw [Array.getElem?_push, if_neg (by omega)]
    exact p.keep k hk hnot
  · rw [World.size_alloc]; have := p.size; omega
end
end
end Go.Sp

-- Sp.Plan7
/-! Any order of a region comes to what is done here: what holds on the way. -/
namespace Go.Sp
noncomputable section

def louds (rs : List Rec) : List Nat := (rs.filter (·.loud)).map (·.op)

def heapAfter (base : Nat) : List Rec → Heap → Heap
  | [], H => H
  | r :: rs, H => heapAfter base rs (r.next base H)

theorem heapAfter_next (base : Nat) : ∀ (q : List Rec) (H : Heap), (heapAfter base q H).next = H.next
  | [], _ => rfl
  | r :: q, H => by
    rw [heapAfter, heapAfter_next base q]
    unfold Rec.next
    split <;> rfl

theorem heapAfter_get (base : Nat) : ∀ (q : List Rec) (H : Heap) (b : Nat) (o : AObj), (heapAfter base q H).get b = some o → H.get b = some o ∨ ∃ r, r ∈ q ∧ r.al = some o ∧ b = base + r.op
  | [], _, _, _, e => .inl e
  | r :: q, H, b, o, e => by
    rw [heapAfter] at e
    rcases heapAfter_get base q _ b o e with h | ⟨r', h1, h2⟩
    · unfold Rec.next at h
      split at h
      · rename_i o' ho
        rw [Heap.get_upd] at h
        split at h
        · rename_i hb
          cases h
          exact .inr ⟨r, by simp, ho, hb⟩
        · exact .inl h
      · exact .inl h
    · exact .inr ⟨r', by simp [h1], h2⟩

/-- What lies beside: made already, named later. -/
def addPend (base : Nat) (S : Nat → Bool) : List Rec → Heap → Heap
  | [], H => H
  | r :: rs, H => match r.al, S r.op with
    | some o, true => (addPend base S rs H).upd (base + r.op) o
    | _, _ => addPend base S rs H

theorem addPend_next (base : Nat) (S : Nat → Bool) : ∀ (q : List Rec) (H : Heap), (addPend base S q H).next = H.next
  | [], _ => rfl
  | r :: q, H => by
    rw [addPend]
    split
    · exact addPend_next base S q H
    · exact addPend_next base S q H

theorem addPend_get (base : Nat) (S : Nat → Bool) : ∀ (q : List Rec) (H : Heap) (b : Nat) (o : AObj), (addPend base S q H).get b = some o → H.get b = some o ∨ ∃ r, r ∈ q ∧ r.al = some o ∧ b = base + r.op ∧ S r.op = true
  | [], _, _, _, e => .inl e
  | r :: q, H, b, o, e => by
    rw [addPend] at e
    split at e
    · rename_i o' ho hs
      rw [Heap.get_upd] at e
      split at e
      · rename_i hb
        cases e
        exact .inr ⟨r, by simp, ho, hb, hs⟩
      · rcases addPend_get base S q H b o e with h | ⟨r', h1, h2⟩
        · exact .inl h
        · exact .inr ⟨r', by simp [h1], h2⟩
    · rcases addPend_get base S q H b o e with h | ⟨r', h1, h2⟩
      · exact .inl h
      · exact .inr ⟨r', by simp [h1], h2⟩

theorem addPend_sub (base : Nat) (S : Nat → Bool) : ∀ (q : List Rec) (H : Heap), (∀ r, r ∈ q → r.al ≠ none → H.get (base + r.op) = none) → Sub H (addPend base S q H)
  | [], _, _ => Sub.refl _
  | r :: q, H, h => by
    intro b o e
    have := addPend_sub base S q H (fun r' hr' => h r' (by simp [hr'])) b o e
    rw [addPend]
    split
    · rename_i o' ho hs
      rw [Heap.get_upd]
      split
      · rename_i hb
        have := h r (by simp) (by rw [ho]; simp)
        rw [← hb, e] at this; cases this
      · exact this
    · exact this

theorem addPend_there (base : Nat) (S : Nat → Bool) : ∀ (q : List Rec) (H : Heap), (q.Pairwise fun r r' => r.op ≠ r'.op) → ∀ r o, r ∈ q → r.al = some o → S r.op = true → (addPend base S q H).get (base + r.op) = some o
  | [], _, _, r, o, h, _, _ => by simp at h
  | r0 :: q, H, hp, r, o, hr, ho, hs => by
    rw [addPend]
    have hp' := List.pairwise_cons.1 hp
    rcases List.mem_cons.1 hr with hr | hr
    · subst hr
      rw [ho, hs]
      simp only [Heap.get_upd, if_true]
    · have ih := addPend_there base S q H hp'.2 r o hr ho hs
      split
      · rw [Heap.get_upd, if_neg (by have := hp'.1 r hr; omega)]
        exact ih
      · exact ih

theorem tr_split {V : View} {n base : Nat} {hsF : List Heap} {HF : Heap} {r : Rec} {post' : List Rec} (hr : r.loud = true) : ∀ (q : List Rec) (e : Nat) (Hs : Heap), (∀ x, x ∈ q → x.loud = false) → Tr V n base hsF (q ++ r :: post') e Hs HF →
    ∃ Ha, Loud V n r (heapAfter base q Hs) Ha ∧ hsF[e + 1]? = some Ha ∧ Tr V n base hsF post' (e + 1) Ha HF
  | [], e, Hs, _, h => by
    rcases h with ⟨_, h⟩ | ⟨h, _⟩
    · exact h
    · rw [hr] at h; cases h
  | x :: q, e, Hs, hq, h => by
    rcases h with ⟨h, _⟩ | ⟨_, h⟩
    · rw [hq x (by simp)] at h; cases h
    · exact tr_split hr q e _ (fun y hy => hq y (by simp [hy])) h

theorem tr_quiet {V : View} {n base : Nat} {hsF : List Heap} {HF : Heap} : ∀ (q : List Rec) (e : Nat) (Hs : Heap), (∀ x, x ∈ q → x.loud = false) → Tr V n base hsF q e Hs HF → HF = heapAfter base q Hs
  | [], e, Hs, _, h => by cases h; rfl
  | x :: q, e, Hs, hq, h => by
    rcases h with ⟨h, _⟩ | ⟨_, h⟩
    · rw [hq x (by simp)] at h; cases h
    · exact tr_quiet q e _ (fun y hy => hq y (by simp [hy])) h

theorem op_once {recs : List Rec} (h : recs.Pairwise fun r r' => r.op ≠ r'.op) : ∀ r r', r ∈ recs → r' ∈ recs → r.op = r'.op → r = r' := by
  induction recs with
  | nil => intro r _ h; simp at h
  | cons x xs ih =>
    have hp := List.pairwise_cons.1 h
    intro r r' hr hr' e
    rcases List.mem_cons.1 hr with k | k
    · rcases List.mem_cons.1 hr' with k' | k'
      · rw [k, k']
      · rw [k] at e; exact absurd e (hp.1 r' k')
    · rcases List.mem_cons.1 hr' with k' | k'
      · rw [k'] at e; exact absurd e.symm (hp.1 r k)
      · exact ih hp.2 r r' k k' e

/-- The wanted operations, where only the guard's slot is known. -/
theorem wanted_eq' {β : Ren} {env : T Value} {tmps : Array Value} {ops : Array Oper} {o : Oper} (h : ∀ t, t ∈ guardTmp ops.toList o → VRel β (look env (.tmp t)) (tmps.getD t undef)) :
    Region.wanted o (yielded ops tmps) = wantedA ops.toList env o := by
  rw [wanted_look]
  unfold Region.wanted
  unfold guardTmp at h
  cases hg : o.guard with
  | none => rfl
  | some g =>
    obtain ⟨j, want⟩ := g
    rw [hg] at h
    simp only [Array.getElem?_toList] at h
    simp only [yielded, Array.getElem?_toList]
    cases hj : ops[j]? with
    | none => rfl
    | some p =>
      rw [hj] at h
      simp only at h
      simp only [Option.bind_some]
      cases hd : p.dst with
      | none => rfl
      | some d =>
        have r := h d (by simp [hd])
        simp only [Option.bind_some]
        cases ht : tmps[d]? with
        | none =>
          have hu : tmps.getD d undef = undef := by
            rw [Array.getD_eq_getD_getElem?, ht]; rfl
          rw [hu] at r
          cases hv : look env (.tmp d) <;> rw [hv] at r <;> first | rfl | (cases r; done)
        | some x =>
          have hx : tmps.getD d undef = x := by rw [Array.getD_eq_getD_getElem?, ht]; rfl
          rw [hx] at r
          cases hv : look env (.tmp d) <;> rw [hv] at r <;> cases r <;> rfl
end
end Go.Sp

-- Sp.Plan8
/-! Any order of a region comes to what is done here: each step. -/
namespace Go.Sp
noncomputable section

structure Ctx where
  P : Program
  V : View
  G : Nat
  Pl : FuncId → Nat → Array Oper → Prop
  fn : FuncId
  ro' : Option Nat
  n : Nat
  nt : Nat
  ops : Array Oper
  hsF : List Heap
  envF : T Value
  recs : List Rec
  HF : Heap
  β0 : Ren
  H0 : Heap
  w0 : World
  bw : Nat

variable (X : Ctx)

structure CtxOk : Prop where
  hV : VOk X.P X.V X.G X.Pl
  plan : PlanOk X.ops.toList (X.recs.map stepOf)
  recs : ∀ r, r ∈ X.recs → RecOk X.V X.H0.next X.nt X.ops.toList X.hsF X.envF r
  opers : ∀ (i : Nat) (o : Oper), X.ops[i]? = some o → OperOk X.P X.G o
  glob : GRel X.G X.β0
  rel0 : HRel (okC X.P X.G X.Pl) X.β0 X.H0 X.w0 X.bw
  calls : ∀ m, m ≤ X.n → CallSim X.P X.V X.G X.Pl m
  yields : ∀ m, m ≤ X.n → YieldSim X.P X.V X.G X.Pl m

structure Inv (S : Nat → Bool) (tmps : Array Value) (w : World) (post : List Rec) (e : Nat) (Hs : Heap) (β : Ren) (Hp : Heap) : Prop where
  suf : post <:+ X.recs
  tr : Tr X.V X.n X.H0.next X.hsF post e Hs X.HF
  ep : ∃ h, X.hsF[e]? = some h ∧ Sub h Hs
  loud : (louds X.recs).drop e = louds post
  len : e ≤ (louds X.recs).length
  done : ∀ x, x ∈ (louds X.recs).take e → S x = true
  due : ∀ x, x ∈ louds post → S x = false
  made : ∀ r, r ∈ X.recs → r.al ≠ none → S r.op = false → r ∈ post
  rel : HRel (okC X.P X.G X.Pl) β Hp w X.bw
  next : Hp.next = Hs.next
  room : X.H0.next + X.ops.size ≤ Hs.next
  sub : Sub Hs Hp
  only : ∀ b o, Hp.get b = some o → Hs.get b = some o ∨ ∃ r, r ∈ post ∧ r.al = some o ∧ b = X.H0.next + r.op ∧ S r.op = true
  there : ∀ r o, r ∈ post → r.al = some o → S r.op = true → Hp.get (X.H0.next + r.op) = some o
  free1 : ∀ r, r ∈ post → r.al ≠ none → Hs.get (X.H0.next + r.op) = none
  free2 : ∀ r, r ∈ X.recs → r.al ≠ none → S r.op = false → β (X.H0.next + r.op) = none
  size : tmps.size = X.nt
  tmp : ∀ t, (∀ i o, X.ops[i]? = some o → o.dst = some t → S i = true) → VRel β (look X.envF (.tmp t)) (tmps.getD t undef)
  post : Post X.β0 X.H0 X.w0 β Hp w

def Closed (all : List Oper) (S : Nat → Bool) : Prop := ∀ i, S i = true → ∀ j, Pred all j i → S j = true
def more (S : Nat → Bool) (i : Nat) : Nat → Bool := fun j => S j || Nat.beq j i

theorem more_iff (S : Nat → Bool) (i j : Nat) : more S i j = true ↔ S j = true ∨ j = i := by
  simp only [more, Bool.or_eq_true]
  exact ⟨fun h => h.imp id beq_eq, fun h => h.imp id fun e => by rw [e]; exact beq_same _⟩
theorem more_false (S : Nat → Bool) (i j : Nat) : more S i j = false ↔ S j = false ∧ j ≠ i := by
  have := more_iff S i j
  cases h : more S i j <;> cases h2 : S j <;> simp_all

variable {X}

section
variable (hX : CtxOk X) {S : Nat → Bool} {tmps : Array Value} {w : World} {post : List Rec} {e : Nat} {Hs : Heap} {β : Ren} {Hp : Heap} (hI : Inv X S tmps w post e Hs β Hp)
include hX

theorem once : X.recs.Pairwise fun r r' => r.op ≠ r'.op := by
  have := hX.plan.once
  rw [List.pairwise_map] at this
  exact this

theorem opOf {r : Rec} (hr : r ∈ X.recs) : X.ops[r.op]? = some r.o := by
  have := (hX.recs r hr).op
  rwa [Array.getElem?_toList] at this

theorem op_lt {r : Rec} (hr : r ∈ X.recs) : r.op < X.ops.size := (Array.getElem?_eq_some_iff.1 (opOf hX hr)).1

include hI

/-- A slot that an operation looks at. -/
theorem slot {r : Rec} (hr : r ∈ X.recs) (hc : Closed X.ops.toList S) (hready : ∀ k, Pred X.ops.toList k r.op → S k = true) {t : Tmp} (ht : t ∈ looksAt X.ops.toList r.o) :
    VRel β (look X.envF (.tmp t)) (tmps.getD t undef) := by
  refine hI.tmp t fun i o hi hd => ?_
  have := hX.plan.reads r.op r.o (hX.recs r hr).op t ht i o (by rw [Array.getElem?_toList]; exact hi) hd
  exact this.listed (S := fun i => S i = true) hc hready

theorem rho_rel {r : Rec} (hr : r ∈ X.recs) (hc : Closed X.ops.toList S) (hready : ∀ k, Pred X.ops.toList k r.op → S k = true) :
    ∀ x, x ∈ r.o.op.operands.toList → VRel β (r.ρ x) ((mkF X.fn tmps [] [] none).eval x) := by
  intro x hx
  rw [(hX.recs r hr).rho x hx]
  have hok := (hX.opers _ _ (opOf hX hr)).opnds x hx
  cases x with
  | tmp t =>
    refine slot hX hI hr hc hready ?_
    simp only [looksAt, List.mem_append, opTmps, List.mem_filterMap]
    exact .inl ⟨.tmp t, hx, rfl⟩
  | const v => exact VRel.plain 10 v hok
  | global g =>
    obtain ⟨t, h1, h2, h3⟩ := (hX.glob.mono hI.post.ext) g (by simpa [okOperand] using hok)
    have := VRel.ptr (o := 0) h1
    rw [h2, h3] at this
    exact this
  | func f => exact .func (.func f) rfl (fun i h => by simp at h) rfl (fun i h => by simp at h)

theorem wanted_rel {r : Rec} (hr : r ∈ X.recs) (hc : Closed X.ops.toList S) (hready : ∀ k, Pred X.ops.toList k r.op → S k = true) : Region.wanted r.o (yielded X.ops tmps) = r.wanted := by
  rw [wanted_eq' (β := β) (env := X.envF), (hX.recs r hr).wanted]
  intro t ht
  refine slot hX hI hr hc hready ?_
  simp only [looksAt, List.mem_append]
  exact .inr ht

/-- The slots, after an operation. -/
theorem tmp_after {r : Rec} (hr : r ∈ X.recs) {β' : Ren} (le : β.le β') {v' : Value} (hv : VRel β' r.v v') :
    (dstTmps tmps r.o.dst v').size = X.nt ∧ ∀ t, (∀ i o, X.ops[i]? = some o → o.dst = some t → more S r.op i = true) → VRel β' (look X.envF (.tmp t)) ((dstTmps tmps r.o.dst v').getD t undef) := by
  have hs := hI.size
  have other : ∀ t, r.o.dst ≠ some t → (∀ i o, X.ops[i]? = some o → o.dst = some t → more S r.op i = true) → VRel β' (look X.envF (.tmp t)) (tmps.getD t undef) := by
    intro t hne h
    refine (hI.tmp t fun i o hi hd => ?_).mono le
    rcases (more_iff _ _ _).1 (h i o hi hd) with k | k
    · exact k
    · subst k
      rw [opOf hX hr] at hi; cases hi
      exact absurd hd hne
  cases hd : r.o.dst with
  | none => exact ⟨hs, fun t h => other t (by rw [hd]; simp) h⟩
  | some d =>
    refine ⟨by simp [dstTmps, hs], fun t h => ?_⟩
    obtain ⟨h1, h2⟩ := (hX.recs r hr).val d hd
    by_cases htd : t = d
    · subst htd
      rw [h1]
      have : (dstTmps tmps (some t) v').getD t undef = v' := by
        have hlt : (t : Nat) < tmps.size := by rw [hs]; exact h2
        simp [dstTmps, Array.getD_eq_getD_getElem?, hlt]
      rw [this]; exact hv
    · have : (dstTmps tmps (some d) v').getD t undef = tmps.getD t undef := by
        simp only [dstTmps]
        rw [Array.getD_eq_getD_getElem?, Array.getD_eq_getD_getElem?, Array.getElem?_setIfInBounds, if_neg (fun h => htd h.symm)]
      rw [this]
      exact other t (by rw [hd]; intro h; exact htd (Option.some.inj h).symm) h

/-- A quiet operation that makes nothing. -/
theorem Inv.quiet {r : Rec} (hr : r ∈ X.recs) (hq : r.loud = false) (hal : r.al = none) {β' : Ren} {w' : World} {v' : Value} (h1 : HRel (okC X.P X.G X.Pl) β' Hp w' X.bw) (h2 : VRel β' r.v v') (h3 : Post β Hp w β' Hp w') :
    Inv X (more S r.op) (dstTmps tmps r.o.dst v') w' post e Hs β' Hp := by
  have hone := op_once (once hX)
  have hin : ∀ {x}, x ∈ post → x ∈ X.recs := fun h => hI.suf.subset h
  have ne : ∀ r', r' ∈ X.recs → r'.al ≠ none → r'.op ≠ r.op := fun r' k1 k2 k3 => by
    have := hone r' r k1 hr k3
    rw [this] at k2; exact k2 hal
  refine ⟨hI.suf, hI.tr, hI.ep, hI.loud, hI.len, fun x hx => (more_iff _ _ _).2 (.inl (hI.done x hx)), ?_, ?_, h1, hI.next, hI.room, hI.sub, ?_, ?_, hI.free1, ?_, (tmp_after hX hI hr h3.ext h2).1, (tmp_after hX hI hr h3.ext h2).2, hI.post.trans hX.rel0 h3⟩
  · intro x hx
    refine (more_false _ _ _).2 ⟨hI.due x hx, fun hxr => ?_⟩
    simp only [louds, List.mem_map, List.mem_filter] at hx
    obtain ⟨r', ⟨k1, k2⟩, k3⟩ := hx
    have := hone r' r (hin k1) hr (k3.trans hxr)
    subst this; rw [hq] at k2; cases k2
  · intro r' k1 k2 k3
    exact hI.made r' k1 k2 ((more_false _ _ _).1 k3).1
  · intro b o hb
    rcases hI.only b o hb with h | ⟨r', k1, k2, k3, k4⟩
    · exact .inl h
    · exact .inr ⟨r', k1, k2, k3, (more_iff _ _ _).2 (.inl k4)⟩
  · intro r' o k1 k2 k3
    rcases (more_iff _ _ _).1 k3 with k3 | k3
    · exact hI.there r' o k1 k2 k3
    · exact absurd k3 (ne r' (hin k1) (by rw [k2]; simp))
  · intro r' k1 k2 k3
    have k4 := hI.free2 r' k1 k2 ((more_false _ _ _).1 k3).1
    cases hb : β' (X.H0.next + r'.op) with
    | none => rfl
    | some t =>
      rcases h3.fresh _ _ hb with h | h
      · rw [k4] at h; cases h
      · have a := hI.next; have b := hI.room; have c := op_lt hX k1
        omega

/-- An operation that makes a block. -/
theorem Inv.make {r : Rec} (hr : r ∈ X.recs) (hq : r.loud = false) (hun : S r.op = false) {b : AObj} (hal : r.al = some b) {f : Nat → Value} (hv : r.v = f (X.H0.next + r.op)) {x : Obj} {t : Tgt} {v' : Value}
    (m1 : t.blk = w.heap.size) (m2 : ∀ ok, ORel β ok b x t) (m3 : ∀ (β' : Ren) id, β' id = some t → VRel β' (f id) v') :
    Inv X (more S r.op) (dstTmps tmps r.o.dst v') (w.alloc x) post e Hs (β.with (X.H0.next + r.op) t) (Hp.upd (X.H0.next + r.op) b) := by
  have hone := op_once (once hX)
  have hin : ∀ {x}, x ∈ post → x ∈ X.recs := fun h => hI.suf.subset h
  have halne : r.al ≠ none := by rw [hal]; simp
  have hpost : r ∈ post := hI.made r hr halne hun
  have hfree := hI.free2 r hr halne hun
  have hlt : X.H0.next + r.op < Hp.next := by have a := hI.next; have b := hI.room; have c := op_lt hX hr; omega
  have le : β.le (β.with (X.H0.next + r.op) t) := Ren.le_with t hfree
  have htmp := tmp_after hX hI hr (v' := v') le (by rw [hv]; exact m3 _ _ (Ren.with_same _ _ _))
  refine ⟨hI.suf, hI.tr, hI.ep, hI.loud, hI.len, fun x hx => (more_iff _ _ _).2 (.inl (hI.done x hx)), ?_, ?_, hI.rel.put hlt hfree b x t m1 (m2 _), hI.next, hI.room, ?_, ?_, ?_, hI.free1, ?_, htmp.1, htmp.2,
    hI.post.put (by omega) hfree b x t m1⟩
  · intro x hx
    refine (more_false _ _ _).2 ⟨hI.due x hx, fun hxr => ?_⟩
    simp only [louds, List.mem_map, List.mem_filter] at hx
    obtain ⟨r', ⟨k1, k2⟩, k3⟩ := hx
    have := hone r' r (hin k1) hr (k3.trans hxr)
    subst this; rw [hq] at k2; cases k2
  · intro r' k1 k2 k3
    exact hI.made r' k1 k2 ((more_false _ _ _).1 k3).1
  · intro b' o' hb'
    rw [Heap.get_upd]
    split
    · rename_i h
      have := hI.free1 r hpost halne
      rw [← h, hb'] at this; cases this
    · exact hI.sub b' o' hb'
  · intro b' o' hb'
    rw [Heap.get_upd] at hb'
    split at hb'
    · rename_i h
      cases hb'
      exact .inr ⟨r, hpost, hal, h, (more_iff _ _ _).2 (.inr rfl)⟩
    · rcases hI.only b' o' hb' with h | ⟨r', k1, k2, k3, k4⟩
      · exact .inl h
      · exact .inr ⟨r', k1, k2, k3, (more_iff _ _ _).2 (.inl k4)⟩
  · intro r' o' k1 k2 k3
    rw [Heap.get_upd]
    by_cases hrr : r'.op = r.op
    · have := hone r' r (hin k1) hr hrr
      subst this
      rw [if_pos rfl, ← k2, hal]
    · rw [if_neg (by omega)]
      rcases (more_iff _ _ _).1 k3 with k3 | k3
      · exact hI.there r' o' k1 k2 k3
      · exact absurd k3 hrr
  · intro r' k1 k2 k3
    obtain ⟨k4, k5⟩ := (more_false _ _ _).1 k3
    rw [Ren.with_other _ _ (by omega)]
    exact hI.free2 r' k1 k2 k4
end
end
end Go.Sp

-- Sp.Plan9
/-! A loud operation, on any order's way. -/
namespace Go.Sp
noncomputable section

section
variable {X : Ctx} (hX : CtxOk X) {S : Nat → Bool} {tmps : Array Value} {w : World} {post : List Rec} {e : Nat} {Hs : Heap} {β : Ren} {Hp : Heap} (hI : Inv X S tmps w post e Hs β Hp)
include hX

theorem before_rec : X.recs.Pairwise fun r r' => r'.loud = true → (r.loud = true ∨ r.al ≠ none) → Anc X.ops.toList r.op r'.op := by
  have h := hX.plan.before
  rw [List.pairwise_map] at h
  refine List.Pairwise.imp_of_mem ?_ h
  intro r r' hr hr' k h1 h2
  refine k h1 ?_
  rcases h2 with h2 | h2
  · exact .inl h2
  · exact .inr ⟨r.o, (hX.recs r hr).op, ((hX.recs r hr).al h2).2.1⟩

include hI

/-- The loud operation that is due. -/
theorem due_first {r : Rec} (hr : r ∈ X.recs) (hq : r.loud = true) (hun : S r.op = false) (hc : Closed X.ops.toList S) (hready : ∀ k, Pred X.ops.toList k r.op → S k = true) :
    ∃ q post', post = q ++ r :: post' ∧ ∀ x, x ∈ q → x.loud = false := by
  have hin : r.op ∈ louds X.recs := by
    simp only [louds, List.mem_map, List.mem_filter]
    exact ⟨r, ⟨hr, hq⟩, rfl⟩
  have hone := op_once (once hX)
  have hsub : ∀ {x}, x ∈ post → x ∈ X.recs := fun h => hI.suf.subset h
  have hpin : r.op ∈ louds post := by
    rw [← hI.loud]
    have : r.op ∈ (louds X.recs).take e ++ (louds X.recs).drop e := by rw [List.take_append_drop]; exact hin
    rcases List.mem_append.1 this with h | h
    · have := hI.done _ h; rw [hun] at this; cases this
    · exact h
  have hrpost : r ∈ post := by
    simp only [louds, List.mem_map, List.mem_filter] at hpin
    obtain ⟨r', ⟨k1, k2⟩, k3⟩ := hpin
    have := hone r' r (hsub k1) hr k3
    rw [← this]; exact k1
  have hf : r ∈ post.filter (·.loud) := List.mem_filter.2 ⟨hrpost, hq⟩
  have hpw : (post.filter (·.loud)).Pairwise fun r r' => r'.loud = true → (r.loud = true ∨ r.al ≠ none) → Anc X.ops.toList r.op r'.op :=
    (before_rec hX).sublist (List.filter_sublist.trans hI.suf.sublist)
  cases hl : post.filter (·.loud) with
  | nil => rw [hl] at hf; simp at hf
  | cons rx L =>
    rw [hl] at hf hpw
    have hx : r = rx := by
      rcases List.mem_cons.1 hf with h | h
      · exact h
      · have hrx : rx ∈ post.filter (·.loud) := by rw [hl]; simp
        obtain ⟨j1, j2⟩ := List.mem_filter.1 hrx
        have ha := (List.pairwise_cons.1 hpw).1 r h hq (.inl j2)
        have hS := ha.listed (S := fun i => S i = true) hc hready
        have := hI.due rx.op (by simp only [louds, List.mem_map]; exact ⟨rx, hrx, rfl⟩)
        rw [hS] at this; cases this
    obtain ⟨l1, l2, h1, h2, h3, h4⟩ := List.filter_eq_cons_iff.1 hl
    subst hx
    exact ⟨l1, l2, h1, fun x hx => by have := h2 x hx; simpa using this⟩

theorem Inv.loudStep {r : Rec} {q post' : List Rec} (hpost : post = q ++ r :: post') (hqs : ∀ x, x ∈ q → x.loud = false) (hr : r ∈ X.recs) (hq : r.loud = true) (_ : S r.op = false)
    (hc : Closed X.ops.toList S) (hready : ∀ k, Pred X.ops.toList k r.op → S k = true) :
    HRel (okC X.P X.G X.Pl) β (heapAfter X.H0.next q Hs) w X.bw ∧ ∃ Ha, Loud X.V X.n r (heapAfter X.H0.next q Hs) Ha ∧
      ∀ β' w' v', HRel (okC X.P X.G X.Pl) β' Ha w' X.bw → VRel β' r.v v' → Post β (heapAfter X.H0.next q Hs) w β' Ha w' →
        ∃ Hp', Inv X (more S r.op) (dstTmps tmps r.o.dst v') w' post' (e + 1) Ha β' Hp' := by
  have hone := op_once (once hX)
  have hsub : ∀ {x}, x ∈ post → x ∈ X.recs := fun h => hI.suf.subset h
  have hal : r.al = none := by
    cases h : r.al with
    | none => rfl
    | some b => have := ((hX.recs r hr).al (by rw [h]; simp)).1; rw [hq] at this; cases this
  -- the makers ahead of it are done
  have hdone : ∀ x, x ∈ q → x.al ≠ none → S x.op = true := by
    intro x hx hxa
    have hpw : (q ++ r :: post').Pairwise fun r r' => r'.loud = true → (r.loud = true ∨ r.al ≠ none) → Anc X.ops.toList r.op r'.op := by
      rw [← hpost]; exact (before_rec hX).sublist hI.suf.sublist
    have ha := (List.pairwise_append.1 hpw).2.2 x hx r (by simp) hq (.inr hxa)
    exact ha.listed (S := fun i => S i = true) hc hready
  have hsubq : Sub (heapAfter X.H0.next q Hs) Hp := by
    intro b o hb
    rcases heapAfter_get _ q Hs b o hb with h | ⟨x, h1, h2, h3⟩
    · exact hI.sub b o h
    · rw [h3]
      exact hI.there x o (by rw [hpost]; simp [h1]) h2 (hdone x h1 (by rw [h2]; simp))
  have hnq : (heapAfter X.H0.next q Hs).next = Hs.next := heapAfter_next _ _ _
  have hpw : (q ++ r :: post').Pairwise fun r r' => r.op ≠ r'.op := by
    rw [← hpost]; exact (once hX).sublist hI.suf.sublist
  -- no maker that is still to come has its name yet
  have hfree : ∀ x, x ∈ post' → x.al ≠ none → (heapAfter X.H0.next q Hs).get (X.H0.next + x.op) = none := by
    intro x hx hxa
    cases hg : (heapAfter X.H0.next q Hs).get (X.H0.next + x.op) with
    | none => rfl
    | some o =>
      rcases heapAfter_get _ q Hs _ o hg with h | ⟨y, h1, h2, h3⟩
      · rw [hI.free1 x (by rw [hpost]; simp [hx]) hxa] at h; cases h
      · have := (List.pairwise_append.1 hpw).2.2 y h1 x (by simp [hx])
        omega
  have hrel : HRel (okC X.P X.G X.Pl) β (heapAfter X.H0.next q Hs) w X.bw := hI.rel.sub hsubq (by rw [hnq, hI.next])
  refine ⟨hrel, ?_⟩
  have htr := hI.tr
  rw [hpost] at htr
  obtain ⟨Ha, h1, h2, h3⟩ := tr_split hq q e Hs hqs htr
  refine ⟨Ha, h1, ?_⟩
  intro β' w' v' k1 k2 k3
  have hlp : louds post = r.op :: louds post' := by
    have hf : q.filter (·.loud) = [] := List.filter_eq_nil_iff.2 fun x hx => by simp [hqs x hx]
    simp [louds, hpost, List.filter_append, hf, hq]
  have hdrop : (louds X.recs).drop e = r.op :: louds post' := by rw [hI.loud, hlp]
  have hge : (louds X.recs)[e]? = some r.op := by
    have : ((louds X.recs).drop e)[0]? = some r.op := by rw [hdrop]; rfl
    rwa [List.getElem?_drop, Nat.add_zero] at this
  have hfa : ∀ x, x ∈ post' → x.al ≠ none → Ha.get (X.H0.next + x.op) = none := by
    intro x hx hxa
    cases hg : Ha.get (X.H0.next + x.op) with
    | none => rfl
    | some o =>
      have hlt : X.H0.next + x.op < (heapAfter X.H0.next q Hs).next := by
        have := op_lt hX (hsub (by rw [hpost]; simp [hx]) : x ∈ X.recs)
        have := hI.room
        omega
      obtain ⟨o2, j, _⟩ := k3.old _ o hlt hg
      rw [hfree x hx hxa] at j; cases j
  obtain ⟨f1, f2⟩ := frame (H2 := addPend X.H0.next S post' Ha) hI.rel hsubq (by rw [hnq, hI.next]) k3 k1 (addPend_next _ _ _ _) (by
    intro b o hb
    rcases addPend_get _ S post' Ha b o hb with h | ⟨x, j1, j2, j3, j4⟩
    · exact .inl h
    · refine .inr ⟨?_, ?_⟩
      · rw [j3]; exact hI.there x o (by rw [hpost]; simp [j1]) j2 j4
      · rw [j3]; exact hfree x j1 (by rw [j2]; simp))
  have htmp := tmp_after hX hI hr f2.ext k2
  refine ⟨addPend X.H0.next S post' Ha, ?_, h3, ⟨Ha, h2, Sub.refl _⟩, ?_, ?_, ?_, ?_, ?_, f1, addPend_next _ _ _ _, ?_, addPend_sub _ _ _ _ (fun x hx hxa => hfa x hx hxa), ?_, ?_, hfa, ?_, htmp.1, htmp.2, hI.post.trans hX.rel0 f2⟩
  · exact (List.suffix_cons r post').trans ((List.suffix_append q (r :: post')).trans (hpost ▸ hI.suf))
  · have : (louds X.recs).drop (e + 1) = ((louds X.recs).drop e).drop 1 := by rw [List.drop_drop]
    rw [this, hdrop]; rfl
  · have := (List.getElem?_eq_some_iff.1 hge).1; omega
  · intro x hx
    rw [List.take_add_one, hge] at hx
    rcases List.mem_append.1 hx with h | h
    · exact (more_iff _ _ _).2 (.inl (hI.done x h))
    · simp at h; exact (more_iff _ _ _).2 (.inr h)
  · intro x hx
    refine (more_false _ _ _).2 ⟨hI.due x (by rw [hlp]; simp [hx]), fun hxr => ?_⟩
    simp only [louds, List.mem_map, List.mem_filter] at hx
    obtain ⟨y, ⟨j1, j2⟩, j3⟩ := hx
    have := (List.pairwise_cons.1 (List.pairwise_append.1 hpw).2.1).1 y j1
    exact this (by rw [j3, hxr])
  · intro x j1 j2 j3
    obtain ⟨j4, j5⟩ := (more_false _ _ _).1 j3
    have hm := hI.made x j1 j2 j4
    rw [hpost] at hm
    rcases List.mem_append.1 hm with h | h
    · have := hdone x h j2; rw [j4] at this; cases this
    · rcases List.mem_cons.1 h with h | h
      · rw [h] at j2; exact absurd hal j2
      · exact h
  · have := k3.next; have := hI.room; omega
  · intro b o hb
    rcases addPend_get _ S post' Ha b o hb with h | ⟨x, j1, j2, j3, j4⟩
    · exact .inl h
    · exact .inr ⟨x, j1, j2, j3, (more_iff _ _ _).2 (.inl j4)⟩
  · intro x o j1 j2 j3
    have hpp : post'.Pairwise fun r r' => r.op ≠ r'.op := (List.pairwise_cons.1 (List.pairwise_append.1 hpw).2.1).2
    refine addPend_there _ S post' Ha hpp x o j1 j2 ?_
    rcases (more_iff _ _ _).1 j3 with j3 | j3
    · exact j3
    · exact absurd j3.symm ((List.pairwise_cons.1 (List.pairwise_append.1 hpw).2.1).1 x j1)
  · intro x j1 j2 j3
    obtain ⟨j4, j5⟩ := (more_false _ _ _).1 j3
    have k4 := hI.free2 x j1 j2 j4
    cases hb : β' (X.H0.next + x.op) with
    | none => rfl
    | some t =>
      rcases f2.fresh _ _ hb with h | h
      · rw [k4] at h; cases h
      · have a := hI.next; have b := hI.room; have c := op_lt hX j1
        omega
end
end
end Go.Sp

-- Sp.Plan10
/-! Any order of a region comes to what is done here. -/
namespace Go.Sp
noncomputable section

theorem loudsOf_recs (recs : List Rec) : loudsOf (recs.map stepOf) = louds recs := by
  simp only [loudsOf, louds, List.filter_map, List.map_map]
  rfl

section
variable {X : Ctx} (hX : CtxOk X) {S : Nat → Bool} {tmps : Array Value} {w : World} {post : List Rec} {e : Nat} {Hs : Heap} {β : Ren} {Hp : Heap} (hI : Inv X S tmps w post e Hs β Hp)
include hX

include hI
theorem stepAny {r : Rec} (hr : r ∈ X.recs) (hun : S r.op = false) (hc : Closed X.ops.toList S) (hready : ∀ k, Pred X.ops.toList k r.op → S k = true) :
    ∃ tmps' w' post' e' Hs' β' Hp', Inv X (more S r.op) tmps' w' post' e' Hs' β' Hp' ∧
      ∀ rest ds k cs, Steps X.P (lone (mkF X.fn tmps (.inRegion X.ops (r.op :: rest) :: k) ds X.ro') cs w) (lone (mkF X.fn tmps' (.inRegion X.ops rest :: k) ds X.ro') cs w') := by
  have hop := opOf hX hr
  have hok := hX.opers _ _ hop
  have hw := wanted_rel hX hI hr hc hready
  have hρ := rho_rel hX hI hr hc hready
  have hg := hX.glob.mono hI.post.ext
  have rk := hX.recs r hr
  cases hl : r.loud with
  | true =>
    obtain ⟨q, post', hpost, hqs⟩ := due_first hX hI hr hl hun hc hready
    obtain ⟨hrel, Ha, hloud, cont⟩ := hI.loudStep hX hpost hqs hr hl hun hc hready
    have fin : r.wanted = true → OpGives X.P X.G X.Pl X.fn X.ro' β (heapAfter X.H0.next q Hs) w X.bw tmps r.o r.v Ha → ∃ tmps' w' post' e' Hs' β' Hp', Inv X (more S r.op) tmps' w' post' e' Hs' β' Hp' ∧
          ∀ rest ds k cs, Steps X.P (lone (mkF X.fn tmps (.inRegion X.ops (r.op :: rest) :: k) ds X.ro') cs w) (lone (mkF X.fn tmps' (.inRegion X.ops rest :: k) ds X.ro') cs w') := by
      intro hwt g
      obtain ⟨β', w', v', g1, g2, g3, g4⟩ := g
      obtain ⟨Hp', hI'⟩ := cont β' w' v' g1 g2 g3
      exact ⟨_, w', post', e + 1, Ha, β', Hp', hI', fun rest ds k cs => g4 X.ops r.op rest ds k cs hop (hw.trans hwt)⟩
    rcases hloud with ⟨h1, h2⟩ | ⟨h1, h2 | ⟨m, f, args, H1, h3, h4, h5⟩ | ⟨m, l, args, H1, h3, h4, h5⟩⟩
    · subst h2
      obtain ⟨Hp', hI'⟩ := cont β w undef hrel (by rw [rk.not h1]; exact VRel.undef β) (Post.refl _ _ _)
      exact ⟨_, w, post', e + 1, _, β, Hp', hI', fun rest ds k cs => .one (st_opSkip hop (hw.trans h1))⟩
    · exact fin h1 (opVal' hX.hV h2 hrel hρ hok)
    · exact fin h1 (opCall' hX.hV m (hX.calls m h3) h4 h5 hrel hg hρ hok)
    · exact fin h1 (opYield' hX.hV m (hX.yields m h3) h4 h5 hrel hg hρ hok)
  | false =>
    cases hwt : r.wanted with
    | false =>
      have hal : r.al = none := by
        cases h : r.al with
        | none => rfl
        | some b => have := (rk.al (by rw [h]; simp)).2.2; rw [hwt] at this; cases this
      have := hI.quiet hX hr hl hal (v' := undef) hI.rel (by rw [rk.not hwt]; exact VRel.undef β) (Post.refl _ _ _)
      exact ⟨_, w, post, e, Hs, β, Hp, this, fun rest ds k cs => .one (st_opSkip hop (hw.trans hwt))⟩
    | true =>
      have still : r.al = none → X.V.op r.ρ Hp r.o.op = some (.val r.v Hp) → ∃ tmps' w' post' e' Hs' β' Hp', Inv X (more S r.op) tmps' w' post' e' Hs' β' Hp' ∧
          ∀ rest ds k cs, Steps X.P (lone (mkF X.fn tmps (.inRegion X.ops (r.op :: rest) :: k) ds X.ro') cs w) (lone (mkF X.fn tmps' (.inRegion X.ops rest :: k) ds X.ro') cs w') := by
        intro hal hv
        obtain ⟨β', w', v', g1, g2, g3, g4⟩ := opVal' (fn := X.fn) (ro' := X.ro') hX.hV hv hI.rel hρ hok
        exact ⟨_, w', post, e, Hs, β', Hp, hI.quiet hX hr hl hal g1 g2 g3, fun rest ds k cs => g4 X.ops r.op rest ds k cs hop (hw.trans hwt)⟩
      rcases rk.quiet hl hwt with ⟨b, f, h1, h2, h3⟩ | ⟨h1, h2⟩ | ⟨h1, h2, h3, h4⟩
      · obtain ⟨_, x, t, v', m1, m2, m3, m4⟩ := mk_sim (w := w) hX.hV.ty h1 hρ
        exact ⟨_, _, post, e, Hs, _, _, hI.make hX hr hl hun h2 h3 m2 m3 m4, fun rest ds k cs => .one (st_opVal hop (hw.trans hwt) hok.noDefer (.inl m1))⟩
      · exact still h1 (h2 Hp)
      · have hs := hX.plan.still (stepOf r) (List.mem_map.2 ⟨r, hr, rfl⟩) r.o rk.op hl h2 h3 e (by rw [loudsOf_recs]; exact hI.len)
        rw [loudsOf_recs] at hs
        have hmem : e ∈ r.again := by
          rcases hs with h | ⟨l, h, k⟩ | ⟨l, h, k⟩
          · exact h
          · rw [hI.loud] at h
            have a := hI.due l h
            have b := k.listed (S := fun i => S i = true) hc hready
            rw [a] at b; cases b
          · have a := hI.done l h
            have b := k.listed (S := fun i => S i = true) hc (fun j hj => hc l a j hj)
            have c : S r.op = true := b
            rw [hun] at c; cases c
        obtain ⟨h, k1, k2⟩ := h4 e hmem
        obtain ⟨h', j1, j2⟩ := hI.ep
        rw [k1] at j1; cases j1
        exact still h1 (k2 Hp (j2.trans hI.sub))

/-- All is done. -/
theorem Inv.all (hall : ∀ i, i < X.ops.size → S i = true) : HRel (okC X.P X.G X.Pl) β X.HF w X.bw ∧ ERel β X.nt X.envF tmps ∧ Post X.β0 X.H0 X.w0 β X.HF w := by
  have hsub : ∀ {x}, x ∈ post → x ∈ X.recs := fun h => hI.suf.subset h
  have hq : ∀ x, x ∈ post → x.loud = false := by
    intro x hx
    cases h : x.loud with
    | false => rfl
    | true =>
      have := hI.due x.op (by simp only [louds, List.mem_map, List.mem_filter]; exact ⟨x, ⟨hx, h⟩, rfl⟩)
      rw [hall _ (op_lt hX (hsub hx))] at this; cases this
  have hF := tr_quiet post e Hs hq hI.tr
  have hs : Sub X.HF Hp := by
    intro b o hb
    rw [hF] at hb
    rcases heapAfter_get _ post Hs b o hb with h | ⟨r, h1, h2, h3⟩
    · exact hI.sub b o h
    · rw [h3]; exact hI.there r o h1 h2 (hall _ (op_lt hX (hsub h1)))
  have hn : X.HF.next = Hp.next := by rw [hF, heapAfter_next, hI.next]
  exact ⟨hI.rel.sub hs hn, ⟨hI.size, fun t => hI.tmp t fun i o hi _ => hall i (Array.getElem?_eq_some_iff.1 hi).1⟩, hI.post.sub hs hn⟩
end

def cnt (S : Nat → Bool) : Nat → Nat
  | 0 => 0
  | n + 1 => (match S n with | true => 0 | false => 1) + cnt S n
theorem cnt_zero {S : Nat → Bool} : ∀ (n : Nat), cnt S n = 0 → ∀ i, i < n → S i = true
  | 0, _, i, h => by omega
  | n + 1, e, i, h => by
    simp only [cnt] at e
    have e2 : cnt S n = 0 := by omega
    rcases Nat.lt_or_ge i n with k | k
    · exact cnt_zero n e2 i k
    · have : i = n := by omega
      subst this
      cases hs : S i with
      | true => rfl
      | false => rw [hs] at e; simp at e
theorem cnt_more {S : Nat → Bool} {i : Nat} (hi : S i = false) : ∀ (n : Nat), cnt (more S i) n + (if i < n then 1 else 0) = cnt S n
  | 0 => by simp [cnt]
  | n + 1 => by
    have ih := cnt_more hi n
    simp only [cnt]
    by_cases hn : i = n
    · subst hn
      have h1 : more S i i = true := (more_iff _ _ _).2 (.inr rfl)
      rw [if_neg (Nat.lt_irrefl i)] at ih
      rw [h1, hi, if_pos (Nat.lt_succ_self i)]
      simp only
      omega
    · have h1 : more S i n = S n := by
        cases h : S n with
        | true => exact (more_iff _ _ _).2 (.inl h)
        | false => exact (more_false _ _ _).2 ⟨h, fun k => hn k.symm⟩
      rw [h1]
      by_cases hlt : i < n
      · rw [if_pos hlt] at ih
        rw [if_pos (by omega)]
        omega
      · rw [if_neg hlt] at ih
        rw [if_neg (by omega)]
        omega

theorem listed_more {listed : Array Bool} {i : Nat} (hi : i < listed.size) : (fun j => (listed.setIfInBounds i true).getD j false) = more (fun j => listed.getD j false) i := by
  funext j
  simp only [more]
  rw [Array.getD_eq_getD_getElem?, Array.getD_eq_getD_getElem?, Array.getElem?_setIfInBounds]
  by_cases h : i = j
  · subst h
    simp [hi]
  · rw [if_neg h]
    have : Nat.beq j i = false := by
      cases hb : Nat.beq j i with
      | false => rfl
      | true => exact absurd (beq_eq hb).symm h
    rw [this, Bool.or_false]

theorem go_sim {X : Ctx} (hX : CtxOk X) : ∀ (fuel t : Nat) (listed : Array Bool) (tmps : Array Value) (w : World) (post : List Rec) (e : Nat) (Hs : Heap) (β : Ren) (Hp : Heap),
    listed.size = X.ops.size → Closed X.ops.toList (fun i => listed.getD i false) → cnt (fun i => listed.getD i false) X.ops.size ≤ fuel →
    Inv X (fun i => listed.getD i false) tmps w post e Hs β Hp →
    ∃ tmps' w' β', HRel (okC X.P X.G X.Pl) β' X.HF w' X.bw ∧ ERel β' X.nt X.envF tmps' ∧ Post X.β0 X.H0 X.w0 β' X.HF w' ∧
      ∀ ds k cs, Steps X.P (lone (mkF X.fn tmps (.inRegion X.ops (Region.linearise.go .any X.ops fuel t listed []) :: k) ds X.ro') cs w) (lone (mkF X.fn tmps' k ds X.ro') cs w') := by
  intro fuel
  induction fuel with
  | zero =>
    intro t listed tmps w post e Hs β Hp hsz hc hcnt hI
    obtain ⟨a, b, c⟩ := hI.all hX (cnt_zero _ (by omega))
    exact ⟨tmps, w, β, a, b, c, fun ds k cs => .one st_regionEnd⟩
  | succ fuel ih =>
    intro t listed tmps w post e Hs β Hp hsz hc hcnt hI
    simp only [Region.linearise.go]
    change ∃ tmps' w' β', HRel (okC X.P X.G X.Pl) β' X.HF w' X.bw ∧ ERel β' X.nt X.envF tmps' ∧ Post X.β0 X.H0 X.w0 β' X.HF w' ∧
      ∀ ds k cs, Steps X.P (lone (mkF X.fn tmps (.inRegion X.ops (match (Region.ready .any X.ops listed)[t % (Region.ready .any X.ops listed).length]? with
        | some i => Region.linearise.go .any X.ops fuel (t / (Region.ready .any X.ops listed).length) (listed.setIfInBounds i true) [i]
        | none => [].reverse) :: k) ds X.ro') cs w) (lone (mkF X.fn tmps' k ds X.ro') cs w')
    have hready : ∀ i, i ∈ Region.ready .any X.ops listed ↔ i < X.ops.size ∧ listed.getD i false = false ∧ ∀ k, Pred X.ops.toList k i → listed.getD k false = true := by
      intro i
      simp only [Region.ready, List.mem_filter, List.mem_range, Bool.and_eq_true, Bool.not_eq_true']
      refine and_congr_right fun hi => ?_
      have hget : X.ops[i]? = some X.ops[i] := Array.getElem?_eq_getElem hi
      have h1 : listed.getD i true = listed.getD i false := by
        have : i < listed.size := by omega
        simp [Array.getD, this]
      rw [h1, hget]
      refine and_congr_right fun _ => ?_
      simp only [Option.map_some, Option.getD_some, Array.all_eq_true_iff_forall_mem, Bool.or_eq_true, Bool.not_eq_true']
      constructor
      · intro h k ⟨o, ed, e1, e2, e3, e4⟩
        rw [Array.getElem?_toList, hget] at e1; cases e1
        rcases h ed (Array.mem_toList_iff.1 e2) with h | h
        · rw [e3] at h; cases h
        · rw [← e4]; exact h
      · intro h ed hed
        cases hb : Region.binds .any ed with
        | false => exact .inl rfl
        | true => exact .inr (h ed.on ⟨_, ed, by rw [Array.getElem?_toList]; exact hget, Array.mem_toList_iff.2 hed, hb, rfl⟩)
    cases hi : (Region.ready .any X.ops listed)[t % (Region.ready .any X.ops listed).length]? with
    | none =>
      have hnil : Region.ready .any X.ops listed = [] := by
        cases hr : Region.ready .any X.ops listed with
        | nil => rfl
        | cons x xs =>
          rw [hr] at hi
          have hlt : t % (x :: xs).length < (x :: xs).length := Nat.mod_lt _ (by simp)
          rw [List.getElem?_eq_getElem hlt] at hi
          cases hi
      have hall : ∀ i, i < X.ops.size → listed.getD i false = true := by
        intro i
        induction i using Nat.strongRecOn with
        | ind i ihi =>
          intro hlt
          cases hf : listed.getD i false with
          | true => rfl
          | false =>
            have : i ∈ Region.ready .any X.ops listed := (hready i).2 ⟨hlt, hf, fun k ⟨o, ed, e1, e2, e3, e4⟩ => by
              have hk := hX.plan.back i o e1 ed e2 e3
              rw [e4] at hk
              exact ihi k hk (by omega)⟩
            rw [hnil] at this; simp at this
      obtain ⟨a, b, c⟩ := hI.all hX hall
      exact ⟨tmps, w, β, a, b, c, fun ds k cs => .one st_regionEnd⟩
    | some i =>
      have him := List.mem_of_getElem? hi
      obtain ⟨h1, h2, h3⟩ := (hready i).1 him
      obtain ⟨s, hs1, hs2⟩ := List.mem_map.1 (hX.plan.every i (by simpa using h1))
      obtain ⟨r, hr, hrs⟩ := List.mem_map.1 hs1
      have hri : r.op = i := by rw [← hs2, ← hrs]; rfl
      subst hri
      obtain ⟨tmps', w', post', e', Hs', β', Hp', hI', hst⟩ := stepAny hX hI hr h2 hc h3
      have hm := listed_more (listed := listed) (i := r.op) (by omega)
      rw [← hm] at hI'
      have hc' : Closed X.ops.toList (fun j => (listed.setIfInBounds r.op true).getD j false) := by
        rw [hm]
        intro j hj k hk
        rcases (more_iff _ _ _).1 hj with hj | hj
        · exact (more_iff _ _ _).2 (.inl (hc j hj k hk))
        · subst hj; exact (more_iff _ _ _).2 (.inl (h3 k hk))
      have hcnt' : cnt (fun j => (listed.setIfInBounds r.op true).getD j false) X.ops.size ≤ fuel := by
        rw [hm]
        have := cnt_more (S := fun j => listed.getD j false) h2 X.ops.size
        rw [if_pos h1] at this
        omega
      obtain ⟨tmps2, w2, β2, a, b, c, d⟩ := ih (t / (Region.ready .any X.ops listed).length) (listed.setIfInBounds r.op true) tmps' w' post' e' Hs' β' Hp' (by simpa using hsz) hc' hcnt' hI'
      refine ⟨tmps2, w2, β2, a, b, c, fun ds k cs => ?_⟩
      simp only []
      rw [linearise_go_acc, List.reverse_singleton, List.singleton_append]
      exact (hst _ ds k cs).trans (d ds k cs)
end
end Go.Sp

-- Sp.Plan11
/-! The simulation as a whole. -/
namespace Go.Sp
noncomputable section
open Go.RowKit (Below)

/-- What is asked of the regions that draw their order. -/
def PlOf (V : View) : FuncId → Nat → Array Oper → Prop := fun fn id ops => ∀ p, (V.plan.get fn).bind (fun t => t.get id) = some p → planB ops.toList p = true

theorem HRel.raise {ok : FuncId → Nat → Code → Prop} {β : Ren} {H : Heap} {w : World} {base : Nat} (h : HRel ok β H w base) (k : Nat) : HRel ok β ⟨H.t, H.next + k⟩ w base :=
  ⟨fun b t e => Nat.lt_of_lt_of_le (h.dom b t e) (Nat.le_add_right _ _), fun b o e => Nat.lt_of_lt_of_le (h.lt b o e) (Nat.le_add_right _ _), h.live, h.own, h.sep, h.le⟩
theorem Post.raise (β : Ren) (H : Heap) (w : World) (k : Nat) : Post β H w β ⟨H.t, H.next + k⟩ w :=
  ⟨Ren.le_refl β, Nat.le_add_right _ _, fun _ _ h => .inl h, fun _ _ h k => (by rw [h] at k; cases k), fun _ o' _ h => ⟨o', h, fun k => k⟩, fun _ _ _ => rfl, rfl, rfl, rfl, Nat.le_refl _⟩

theorem cnt_le {S : Nat → Bool} : ∀ n, cnt S n ≤ n
  | 0 => Nat.le_refl _
  | n + 1 => by
    have := cnt_le (S := S) n
    simp only [cnt]
    split <;> omega

section
variable {P : Program} {V : View} {G : Nat}

theorem planSim (hV : VOk P V G (PlOf V)) (n : Nat) (hC : ∀ m, m ≤ n → CallSim P V G (PlOf V) m) (hY : ∀ m, m ≤ n → YieldSim P V G (PlOf V) m) : PlanSim P V G (PlOf V) n := by
  intro fn nt ro id ops p env H x env' H' hrun hp hpl β w base tmps rs ro' t h hg he hro hd hops
  have hok := planB_sound (hpl p hp)
  obtain ⟨rfl, hlook, recs, hsF, hrecs, hpre, hrk, htr⟩ := traceOf p n [⟨H.t, H.next + ops.size⟩] env _ hok.late hrun (by simp)
  let X : Ctx := ⟨P, V, G, PlOf V, fn, ro', n, nt, ops, hsF, env', recs, H', β, H, w, base⟩
  have hX : CtxOk X := ⟨hV, by rw [hrecs]; exact hok, hrk, hops, hg, h, hC, hY⟩
  have hfalse : ∀ i, (Array.replicate ops.size false).getD i false = false := by
    intro i
    rw [Array.getD_eq_getD_getElem?, Array.getElem?_replicate]
    split <;> rfl
  have h0 : ∀ r, r ∈ recs → (⟨H.t, H.next + ops.size⟩ : Heap).get (H.next + r.op) = none := by
    intro r hr
    cases hg : (⟨H.t, H.next + ops.size⟩ : Heap).get (H.next + r.op) with
    | none => rfl
    | some o =>
      have := h.lt (H.next + r.op) o hg
      omega
  have hI : Inv X (fun i => (Array.replicate ops.size false).getD i false) tmps w recs 0 ⟨H.t, H.next + ops.size⟩ β ⟨H.t, H.next + ops.size⟩ := by
    refine ⟨List.suffix_refl _, htr, ⟨_, prefix_get hpre (by simp), Sub.refl _⟩, by simp [X], Nat.zero_le _, fun x hx => by simp at hx, fun x _ => hfalse x, fun r hr _ _ => hr, h.raise _, rfl, Nat.le_refl _, Sub.refl _,
      fun b o e => .inl e, ?_, fun r hr _ => h0 r hr, ?_, he.size, ?_, Post.raise _ _ _ _⟩
    · intro r o _ _ hs
      rw [hfalse] at hs; cases hs
    · intro r hr _ _
      cases hb : β (H.next + r.op) with
      | none => rfl
      | some t => have := h.dom _ _ hb; omega
    · intro t ht
      have hnd : t ∉ dstsOf ops.toList p := by
        intro hm
        simp only [dstsOf, List.mem_flatMap] at hm
        obtain ⟨s, _, hs2⟩ := hm
        unfold dstOf at hs2
        split at hs2
        · rename_i o ho
          have hdst : o.dst = some t := by simpa [eq_comm] using hs2
          have := ht s.op o (by rw [← Array.getElem?_toList]; exact ho) hdst
          rw [hfalse] at this; cases this
        · simp at hs2
      show VRel β (look env' (.tmp t)) _
      rw [hlook t hnd]
      exact he.all t
  have hcl : Closed X.ops.toList (fun i => (Array.replicate ops.size false).getD i false) := by
    intro i hi
    have := (hfalse i).symm.trans hi
    cases this
  obtain ⟨tmps', w', β', a, b, c, d⟩ := go_sim hX ops.size t (Array.replicate ops.size false) tmps w recs 0 _ β _ (by simp [X]) hcl (cnt_le _) hI
  refine ⟨β', w', tmps', rs, a, b, c, hd.keep h c, fun r hr => .inl hr, fun k cs => ?_⟩
  exact d (rs.map dmark) k cs

structure Sims (P : Program) (V : View) (G : Nat) (n : Nat) : Prop where
  code : CodeSim P V G (PlOf V) n
  loop : LoopSim P V G (PlOf V) n
  ops : OpsSim P V G (PlOf V) n
  call : CallSim P V G (PlOf V) n
  yield : YieldSim P V G (PlOf V) n

theorem simAll (hV : VOk P V G (PlOf V)) : ∀ n m, m ≤ n → Sims P V G m := by
  intro n
  induction n with
  | zero =>
    intro m hm
    have : m = 0 := by omega
    subst this
    refine ⟨?_, ?_, ?_, ?_, ?_⟩
    · intro fn nt ro c env H x env' H' h; simp [run] at h
    · intro fn nt ro c env H x env' H' h; simp [run] at h
    · intro fn nt ro all todo env H x env' H' h; simp [run] at h
    · intro f args H v H' h; simp [run] at h
    · intro l args H v H' h; simp [run] at h
  | succ n ih =>
    intro m hm
    rcases Nat.lt_or_ge m (n + 1) with h | h
    · exact ih m (by omega)
    · have : m = n + 1 := by omega
      subst this
      have s := ih n (Nat.le_refl n)
      have pl := planSim hV n (fun m hm => (ih m hm).call) (fun m hm => (ih m hm).yield)
      exact ⟨codeSim hV n s.code s.loop s.ops pl (rangeSim hV n s.call), loopSim n s.code s.loop, opsSim hV n s.ops s.call s.yield, callSim hV n s.code, yieldSim hV n s.code⟩

/-- A call that comes to an end here comes to that end there. -/
theorem run_call (hV : VOk P V G (PlOf V)) {n : Nat} {f : FuncId} {args : List Value} {H : Heap} {v : Value} {H' : Heap} (h : run V n (.call f args) H = some (.val v H')) :
    FnRuns P f ∧ ∀ β w base args', HRel (okC P G (PlOf V)) β H w base → GRel G β → LRel β args args'.toList → CallGives P G (PlOf V) β H w base f args' v H' :=
  (simAll hV n n (Nat.le_refl n)).call f args H v H' h

theorem CallGives.calls {Pl : FuncId → Nat → Array Oper → Prop} {β : Ren} {H : Heap} {w : World} {base : Nat} {f : FuncId} {args' : Array Value} {v : Value} {H' : Heap} (h : HRel (okC P G Pl) β H w base)
    (g : CallGives P G Pl β H w base f args' v H') : Calls P f args' w fun e w' => ∃ v' β', e = .returned v' ∧ VRel β' v v' ∧ HRel (okC P G Pl) β' H' w' base ∧ Post β H w β' H' w' ∧ Below base w w' := by
  obtain ⟨β', w', v', a, b, c, d⟩ := g
  intro cs
  obtain ⟨fr, d1, d2, d3⟩ := d cs
  exact ⟨.returned v', w', fr, ⟨v', β', rfl, b, a, c, c.below h⟩, d3, d2, d1⟩
end
end
end Go.Sp

-- Sp.Load
/-! A program, looked at: checks by computation. -/
namespace Go.Sp
noncomputable section

def FV.of (f : Func) : FV := ⟨f.ntmps, f.results.toList, match f.body with
  | some b => b
  | none => .skip⟩

namespace T
variable {α : Type}
/-- All that a tree holds; a k + b is the key of what stands under k here. -/
def toL (a b : Nat) : T α → List (Nat × α)
  | leaf => []
  | node l v r => (match v with
    | some x => [(b, x)]
    | none => []) ++ toL (2 * a) (a + b) l ++ toL (2 * a) (2 * a + b) r
theorem mem_toL {x : α} : ∀ (t : T α) (k a b : Nat), t.get k = some x → (a * k + b, x) ∈ toL a b t
  | leaf, k, a, b, h => by rw [get_leaf] at h; cases h
  | node l v r, k, a, b, h => by
    simp only [toL, List.mem_append]
    rw [get_node] at h
    by_cases hk : k = 0
    · subst hk
      rw [if_pos rfl] at h
      rw [h]
      exact .inl (.inl (by simp))
    · rw [if_neg hk] at h
      by_cases hp : k % 2 = 1
      · rw [if_pos hp] at h
        have := mem_toL l ((k - 1) / 2) (2 * a) (a + b) h
        have e : 2 * a * ((k - 1) / 2) + (a + b) = a * k + b := by
          obtain ⟨m, hm⟩ : ∃ m, k = 2 * m + 1 := ⟨k / 2, by omega⟩
          subst hm
          rw [show (2 * m + 1 - 1) / 2 = m by omega, Nat.mul_add, Nat.mul_one, Nat.mul_comm 2 a, Nat.mul_assoc]
          omega
        rw [e] at this
        exact .inl (.inr this)
      · rw [if_neg hp] at h
        have := mem_toL r ((k - 1) / 2) (2 * a) (2 * a + b) h
        have e : 2 * a * ((k - 1) / 2) + (2 * a + b) = a * k + b := by
          obtain ⟨m, hm⟩ : ∃ m, k = 2 * (m + 1) := ⟨k / 2 - 1, by omega⟩
          subst hm
          rw [show (2 * (m + 1) - 1) / 2 = m by omega, Nat.mul_comm 2 a, Nat.mul_assoc, Nat.mul_add 2 m 1, Nat.mul_one, Nat.mul_add]
          omega
        rw [e] at this
        exact .inr this
theorem mem_of_get {x : α} {t : T α} {k : Nat} (h : t.get k = some x) : (k, x) ∈ toL 1 0 t := by
  have := mem_toL t k 1 0 h
  simpa using this
end T

/-- A type, as the executor sees it. -/
def mkTV (P : Program) (t : TypeId) : Option TV :=
  match P.info? t, P.underlying t with
  | some i, some d => match i.zero with
    | some z => match plainV 10 z && (match d with | .struct fs => fs.toList.all (fun f => (P.info? f.type).isSome) | _ => true) with
      | true => some ⟨d, i.size, i.bytes, z, aggD d, aggD d && !P.eqGuardType P.depth t && (match d with | .struct _ => !P.stoodInHeld t | _ => true)⟩
      | false => none
    | none => none
  | _, _ => none

theorem mkTV_ok {P : Program} {t : TypeId} {tv : TV} (h : mkTV P t = some tv) : TyOk P t tv := by
  unfold mkTV at h
  split at h
  · rename_i i d hi hd
    split at h
    · rename_i z hz
      split at h
      · rename_i hb
        simp only [Bool.and_eq_true] at hb
        cases h
        refine ⟨hd, ⟨i, hi, rfl, rfl, hz⟩, rfl, hb.1, ?_, ?_, ?_⟩
        · intro h
          simp only [Bool.and_eq_true, Bool.not_eq_true'] at h
          exact h.1.2
        · intro h fs hfs
          simp only at hfs
          subst hfs
          simp only [Bool.and_eq_true, Bool.not_eq_true'] at h
          exact h.2
        · intro fs hfs f hf
          simp only at hfs
          subst hfs
          have := List.all_eq_true.1 hb.2 f (Array.mem_toList_iff.2 hf)
          exact Option.isSome_iff_exists.1 this
      · cases h
    · cases h
  · cases h

def operB (V : View) (G : Nat) (o : Oper) : Bool :=
  o.op.operands.toList.all (okOperand G) && (opTypes o.op).all (fun t => (V.ty.get t).isSome) && (match opFn o.op with | some f => okFn f | none => true) && (match o.op with | .defer _ => false | _ => true)

def codeB (V : View) (G : Nat) (fn : FuncId) : Code → Bool
  | .region id ops draw => ops.toList.all (operB V G) && (!draw || (match (V.plan.get fn).bind (fun t => t.get id) with
    | some p => planB ops.toList p
    | none => true))
  | .seq a b => codeB V G fn a && codeB V G fn b
  | .cond c a b => okOperand G c && codeB V G fn a && codeB V G fn b
  | .block _ c | .loop c | .scope c => codeB V G fn c
  | .rangeFunc f _ a b => okOperand G f && codeB V G fn a && codeB V G fn b
  | _ => true

section
variable {P : Program} {V : View} {G : Nat} (hty : ∀ t tv, V.ty.get t = some tv → TyOk P t tv)
include hty

theorem operB_sound {o : Oper} (h : operB V G o = true) : OperOk P G o := by
  simp only [operB, Bool.and_eq_true] at h
  obtain ⟨⟨⟨h1, h2⟩, h3⟩, h4⟩ := h
  refine ⟨fun x hx => List.all_eq_true.1 h1 x hx, fun t ht => ?_, fun f hf => ?_, fun c hc => ?_⟩
  · obtain ⟨tv, e⟩ := Option.isSome_iff_exists.1 (List.all_eq_true.1 h2 t ht)
    exact ⟨tv.desc, (hty t tv e).under⟩
  · rw [hf] at h3; exact h3
  · rw [hc] at h4; cases h4

theorem codeB_sound {fn : FuncId} : ∀ (c : Code), codeB V G fn c = true → CodeOk P G (PlOf V) fn c
  | .region id ops draw, h => by
    simp only [codeB, Bool.and_eq_true] at h
    refine ⟨fun i o ho => operB_sound hty (List.all_eq_true.1 h.1 o ?_), fun hd => ?_⟩
    · exact Array.mem_toList_iff.2 (Array.mem_of_getElem? ho)
    · intro p hp
      have h2 := h.2
      rw [hd, hp] at h2
      simpa using h2
  | .seq a b, h => by
    simp only [codeB, Bool.and_eq_true] at h
    exact ⟨codeB_sound a h.1, codeB_sound b h.2⟩
  | .cond c a b, h => by
    simp only [codeB, Bool.and_eq_true] at h
    exact ⟨h.1.1, codeB_sound a h.1.2, codeB_sound b h.2⟩
  | .block _ c, h => codeB_sound c h
  | .loop c, h => codeB_sound c h
  | .scope c, h => codeB_sound c h
  | .rangeFunc f _ a b, h => by
    simp only [codeB, Bool.and_eq_true] at h
    exact ⟨h.1.1, codeB_sound a h.1.2, codeB_sound b h.2⟩
  | .skip, _ => trivial
  | .label _, _ => trivial
  | .ret, _ => trivial
  | .exit _, _ => trivial
  | .goto _, _ => trivial
  | .refuse _, _ => trivial
end

def nameB (P : Program) (i : Nat) : Bool := match P.funcs[i]? with
  | some f => !(f.name == "runtime.NumGoroutine") && f.body.isSome
  | none => false

theorem runs_of {P : Program} {i : Nat} (h : nameB P i = true) : FnRuns P i := by
  intro args w
  unfold nameB at h
  split at h
  · rename_i f hf
    simp only [Bool.and_eq_true, Bool.not_eq_true', Option.isSome_iff_exists] at h
    obtain ⟨h1, b, h2⟩ := h
    have h1 : f.name ≠ "runtime.NumGoroutine" := by simpa using h1
    simp [callFunc, hf, h1, h2]
  · cases h

/-- A view without knowledge of its own is sound. -/
theorem viewOk {P : Program} {V : View} {G : Nat} (h1 : (V.ty.toL 1 0).map (fun x => mkTV P x.1) = (V.ty.toL 1 0).map (fun x => some x.2))
    (h2 : (V.fn.toL 1 0).map (fun x => (P.funcs[x.1]?).map FV.of) = (V.fn.toL 1 0).map (fun x => some x.2)) (h3 : (V.fn.toL 1 0).all (fun x => nameB P x.1) = true)
    (h4 : (V.fn.toL 1 0).all (fun x => codeB V G x.1 x.2.body) = true) (h5 : P.follows .mixedOrders = true) (h6 : ∀ f, V.ext f = none) : VOk P V G (PlOf V) := by
  have hty : ∀ t tv, V.ty.get t = some tv → TyOk P t tv := by
    intro t tv e
    have hm := T.mem_of_get e
    exact mkTV_ok (List.map_inj_left.1 h1 _ hm)
  refine ⟨hty, ?_, h5, fun f g h => by rw [h6] at h; cases h⟩
  intro f fv e
  have hm := T.mem_of_get e
  have e2 := List.map_inj_left.1 h2 _ hm
  have e3 := List.all_eq_true.1 h3 _ hm
  have e4 := List.all_eq_true.1 h4 _ hm
  refine ⟨runs_of e3, codeB_sound hty _ e4, ?_⟩
  obtain ⟨fnn, k1, k2⟩ := Option.map_eq_some_iff.1 e2
  simp only at k1 k2 e3
  refine ⟨fnn, k1, by rw [← k2]; rfl, by rw [← k2]; rfl, ?_⟩
  unfold nameB at e3
  rw [k1] at e3
  simp only [Bool.and_eq_true, Option.isSome_iff_exists] at e3
  obtain ⟨_, b, hb⟩ := e3
  rw [← k2]
  simp only [FV.of, hb]
end
end Go.Sp

-- Sp.Fast
/-! The executor in small pieces, as the kernel likes it: the same function. -/
namespace Go.Sp
noncomputable section
namespace Fast
open View

/-- An address, where it is one. -/
def asPtr : Value → Option Addr
  | .pointer a => a
  | _ => none
def asTuple : Value → Option (List Value)
  | .tuple vs => some vs.toList
  | _ => none
def asBoolV : Value → Option Bool
  | .bool b => some b
  | _ => none

/-- An operand's value: by the operand first. -/
def look : Operand → T Value → Value
  | .tmp t => fun env => match env.get t with
    | some v => v
    | none => undef
  | .const v => fun _ => v
  | .global g => fun _ => .pointer (some ⟨g, 0, none⟩)
  | .func f => fun _ => .func (.func f) #[] #[]
theorem look_eq (x : Operand) (env : T Value) : look x env = Go.Sp.look env x := by cases x <;> rfl
theorem look_fun (env : T Value) : (fun x => look x env) = Go.Sp.look env := funext fun x => look_eq x env

section
variable (V : View)
def pick2 (a b : Value) (H : Heap) : Option Bool → Option Nx
  | some true => some (.val a H)
  | some false => some (.val b H)
  | none => none
def load2 (t : TypeId) (H : Heap) : Option Addr → Option Nx
  | some a => value (V.loadVar H t a) H
  | none => none
def store2 (t : TypeId) (v : Value) (H : Heap) : Option Addr → Option Nx
  | some a => quiet (V.storeVar H t a v)
  | none => none
def nil2 (H : Heap) : Option Addr → Option Nx
  | some a => some (.val (.pointer (some a)) H)
  | none => none
def ext2 (i : Nat) (H : Heap) : Option (List Value) → Option Nx
  | some vs => value vs[i]? H
  | none => none
def looks (l : List Operand) : T Value → List Value := match l with
  | [] => fun _ => []
  | x :: xs => fun env => look x env :: looks xs env
theorem looks_eq (env : T Value) : ∀ l, looks l env = l.map (Go.Sp.look env)
  | [] => rfl
  | x :: l => by simp only [looks, List.map_cons, look_eq, looks_eq env l]
def parts (l : List (Nat × Operand)) : T Value → List (Nat × Value) := match l with
  | [] => fun _ => []
  | (i, x) :: xs => fun env => (i, look x env) :: parts xs env
theorem parts_eq (env : T Value) : ∀ l, parts l env = l.map fun (i, x) => (i, Go.Sp.look env x)
  | [] => rfl
  | (i, x) :: l => by simp only [parts, List.map_cons, look_eq, parts_eq env l]
def alloc2 : Option TV → Heap → Option Nx
  | some ev => fun H => some (.val (.pointer (some ⟨H.next, 0, none⟩)) (H.push (.cells true 0 ev.zero.cells.toList)))
  | none => fun _ => none
def call2 (ts : List TypeId) (as : List Operand) : Callee → T Value → Heap → Option Nx
  | .value f => fun env H => V.callValue H (look f env) (looks as env)
  | .builtin b => fun env H => V.builtin H b ts (looks as env)
  | .invoke _ _ => fun _ _ => none

/-- An operation: by the operation first, so that what it is is told once. -/
def op : Op → T Value → Heap → Option Nx
  | .move x => fun env H => some (.val (look x env) H)
  | .assign x => fun env H => some (.val (look x env) H)
  | .pick c a b => fun env H => pick2 (look a env) (look b env) H (asBoolV (look c env))
  | .alloc e => fun _ => alloc2 (V.ty.get e)
  | .box _ x => fun env H => some (.val (.pointer (some ⟨H.next, 0, none⟩)) (H.push (.cells true 0 (look x env).cells.toList)))
  | .build t ps => fun env H => value (V.build t (parts ps.toList env)) H
  | .buildSlice t n ps => fun env H => both (V.buildSlice H t n (parts ps.toList env))
  | .load t a => fun env H => load2 V t H (asPtr (look a env))
  | .store t a x => fun env H => store2 V t (look x env) H (asPtr (look a env))
  | .nilCheck x => fun env H => nil2 H (asPtr (look x env))
  | .binOp op t x y _ => fun env H => value (V.binOp op t (look x env) (look y env)) H
  | .unOp op _ x => fun env H => value (unOp op (look x env)) H
  | .convert _ d x => fun env H => value (V.convert d (look x env)) H
  | .makeSlice t l c => fun env H => both (V.makeSlice H t (look l env) (look c env))
  | .fieldAddr s x f => fun env H => value (V.fieldAddr s (look x env) f) H
  | .field s x f => fun env H => value (V.field s (look x env) f) H
  | .indexAddr t x i => fun env H => value (V.indexAddr t (look x env) (look i env)) H
  | .index t x i => fun env H => value (V.index t (look x env) (look i env)) H
  | .extract x i => fun env H => ext2 i H (asTuple (look x env))
  | .call c => call2 V c.argTypes.toList c.args.toList c.callee
  | o => fun env H => V.op (Go.Sp.look env) H o

theorem op_eq (o : Op) (env : T Value) (H : Heap) : op V o env H = V.op (Go.Sp.look env) H o := by
  cases o with
  | pick c a b =>
    simp only [op, View.op, look_eq]
    cases Go.Sp.look env c <;> first | rfl | (rename_i b; cases b <;> rfl)
  | alloc e => simp only [op, View.op]; cases V.ty.get e <;> rfl
  | build t ps => simp only [op, View.op, parts_eq]
  | buildSlice t n ps => simp only [op, View.op, parts_eq]
  | load t a =>
    simp only [op, View.op, look_eq]
    cases Go.Sp.look env a <;> first | rfl | (rename_i b; cases b <;> rfl)
  | store t a x =>
    simp only [op, View.op, look_eq]
    cases Go.Sp.look env a <;> first | rfl | (rename_i b; cases b <;> rfl)
  | nilCheck x =>
    simp only [op, View.op, look_eq]
    cases Go.Sp.look env x <;> first | rfl | (rename_i b; cases b <;> rfl)
  | extract x i =>
    simp only [op, View.op, look_eq]
    cases Go.Sp.look env x <;> rfl
  | call c =>
    simp only [op, View.op]
    cases c.callee <;> simp only [call2, look_eq, looks_eq]
  | _ => simp only [op, View.op, look_eq]
end

/-- Whether an operation is done: by its guard first. -/
def isB (want : Bool) : Option Value → Bool
  | some (.bool b) => b == want
  | _ => false
def wantDst (want : Bool) : Option Tmp → T Value → Bool
  | some d => fun env => isB want (env.get d)
  | none => fun _ => false
def wantOp (want : Bool) : Option Oper → T Value → Bool
  | some p => wantDst want p.dst
  | none => fun _ => false
def wantG (all : List Oper) : Option (Nat × Bool) → T Value → Bool
  | none => fun _ => true
  | some (j, want) => wantOp want all[j]?
theorem want_eq (all : List Oper) (env : T Value) (o : Oper) : wantG all o.guard env = wantedA all env o := by
  unfold wantedA
  cases o.guard with
  | none => rfl
  | some g =>
    obtain ⟨j, want⟩ := g
    simp only [wantG]
    cases all[j]? with
    | none => rfl
    | some p =>
      simp only [wantOp]
      cases p.dst with
      | none => rfl
      | some d => simp only [wantDst]; cases env.get d with
        | none => rfl
        | some v => cases v <;> rfl

def dstB (d : Tmp) : Bool → Value → T Value → Option (T Value)
  | true => fun v env => some (env.set d v)
  | false => fun _ _ => none
def dstK (nt : Nat) : Option Tmp → Value → T Value → Option (T Value)
  | none => fun _ env => some env
  | some d => dstB d (Nat.blt d nt)
theorem dst_eq (nt : Nat) (o : Oper) (v : Value) (env : T Value) : dstK nt o.dst v env = putDst nt o v env := by
  unfold putDst
  cases o.dst with
  | none => rfl
  | some d => simp only [dstK]; cases Nat.blt d nt <;> rfl

abbrev Rec := Job → Heap → Option Done

section
variable (V : View) (rec : Rec)

def seq (fn : FuncId) (nt : Nat) (ro : Option Nat) (b : Code) : Option Done → Option Done
  | some (.code .normal env' H') => rec (.code fn nt ro b env') H'
  | r => r
def condB (fn : FuncId) (nt : Nat) (ro : Option Nat) (a b : Code) (env : T Value) (H : Heap) : Option Bool → Option Done
  | some true => rec (.code fn nt ro a env) H
  | some false => rec (.code fn nt ro b env) H
  | none => none
def cond (fn : FuncId) (nt : Nat) (ro : Option Nat) (c : Operand) (a b : Code) (env : T Value) (H : Heap) : Option Done :=
  condB rec fn nt ro a b env H (asBoolV (look c env))
def block (i : Nat) : Option Done → Option Done
  | some (.code (.exit j) env' H') => match Nat.beq i j with
    | true => some (.code .normal env' H')
    | false => some (.code (.exit j) env' H')
  | r => r
def region (fn : FuncId) (nt : Nat) (ro : Option Nat) (id : Nat) (ops : Array Oper) (env : T Value) (H : Heap) : Bool → Option Done
  | false => rec (.ops fn nt ro ops.toList ops.toList env) H
  | true => match V.plan.get fn with
    | some t => match t.get id with
      | some p => rec (.plan fn nt ro H.next ops.toList p [⟨H.t, H.next + ops.size⟩] env) ⟨H.t, H.next + ops.size⟩
      | none => none
    | none => none
def rangeEnd (l : Nat) (env : T Value) : Option Done → Option Done
  | some (.val _ H2) => match H2.get l with
    | some (.loop s) => match s.state with
      | .busy => none
      | _ => leaves s.pending env (H2.upd l (.loop { s with state := .exhausted }))
    | _ => none
  | _ => none
def range (fn : FuncId) (nt : Nat) (ro : Option Nat) (f : Operand) (ps : Array Tmp) (as b : Code) (env : T Value) (H : Heap) : Option Done :=
  match roundLive H ro with
  | false => none
  | true => match V.callValue (H.push (.loop ⟨.ready, none, fn, env, nt, ps.toList, as, b⟩)) (look f env) [.func (.yield H.next) #[] #[]] with
    | some (.enter g args _) => rangeEnd H.next env (rec (.call g args) (H.push (.loop ⟨.ready, none, fn, env, nt, ps.toList, as, b⟩)))
    | _ => none

def code (fn : FuncId) (nt : Nat) : Code → Option Nat → T Value → Heap → Option Done
  | .skip => fun _ env H => some (.code .normal env H)
  | .label _ => fun _ env H => some (.code .normal env H)
  | .ret => fun _ env H => some (.code .ret env H)
  | .exit i => fun _ env H => some (.code (.exit i) env H)
  | .seq a b => fun ro env H => seq rec fn nt ro b (rec (.code fn nt ro a env) H)
  | .cond c a b => fun ro env H => cond rec fn nt ro c a b env H
  | .block i b => fun ro env H => block i (rec (.code fn nt ro b env) H)
  | .scope b => fun ro env H => rec (.code fn nt ro b env) H
  | .loop b => fun ro env H => seq rec fn nt ro (.loop b) (rec (.code fn nt ro b env) H)
  | .region id ops draw => fun ro env H => region V rec fn nt ro id ops env H draw
  | .rangeFunc f ps as b => fun ro env H => range V rec fn nt ro f ps as b env H
  | .goto _ => fun _ _ _ => none
  | .refuse _ => fun _ _ _ => none

def put1 (fn : FuncId) (nt : Nat) (ro : Option Nat) (all rest : List Oper) (H : Heap) : Option (T Value) → Option Done
  | some env' => rec (.ops fn nt ro all rest env') H
  | none => none
def ret1 (fn : FuncId) (nt : Nat) (ro : Option Nat) (all rest : List Oper) (o : Oper) (env : T Value) : Option Done → Option Done
  | some (.val v H'') => put1 rec fn nt ro all rest H'' (dstK nt o.dst v env)
  | _ => none
def do1 (fn : FuncId) (nt : Nat) (ro : Option Nat) (all rest : List Oper) (o : Oper) (env : T Value) : Option Nx → Option Done
  | some (.val v H') => put1 rec fn nt ro all rest H' (dstK nt o.dst v env)
  | some (.enter f args H') => ret1 rec fn nt ro all rest o env (rec (.call f args) H')
  | some (.yield l args H') => ret1 rec fn nt ro all rest o env (rec (.yield l args) H')
  | none => none
def one (fn : FuncId) (nt : Nat) (ro : Option Nat) (all rest : List Oper) (o : Oper) (env : T Value) (H : Heap) : Bool → Option Done
  | false => put1 rec fn nt ro all rest H (dstK nt o.dst undef env)
  | true => do1 rec fn nt ro all rest o env (op V o.op env H)
def ops (fn : FuncId) (nt : Nat) (ro : Option Nat) (all todo : List Oper) (env : T Value) (H : Heap) : Option Done :=
  match todo with
  | [] => some (.code .normal env H)
  | o :: rest => one V rec fn nt ro all rest o env H (wantG all o.guard env)

def put2 (fn : FuncId) (nt : Nat) (ro : Option Nat) (base : Nat) (all : List Oper) (rest : List Step) (hs : List Heap) (H : Heap) : Option (T Value) → Option Done
  | some env' => rec (.plan fn nt ro base all rest hs env') H
  | none => none
def ret2 (fn : FuncId) (nt : Nat) (ro : Option Nat) (base : Nat) (all : List Oper) (rest : List Step) (hs : List Heap) (o : Oper) (env : T Value) : Option Done → Option Done
  | some (.val v H'') => put2 rec fn nt ro base all rest (hs ++ [H'']) H'' (dstK nt o.dst v env)
  | _ => none
def loud2 (fn : FuncId) (nt : Nat) (ro : Option Nat) (base : Nat) (all : List Oper) (rest : List Step) (hs : List Heap) (o : Oper) (env : T Value) : Option Nx → Option Done
  | some (.val v H') => put2 rec fn nt ro base all rest (hs ++ [H']) H' (dstK nt o.dst v env)
  | some (.enter f args H') => ret2 rec fn nt ro base all rest hs o env (rec (.call f args) H')
  | some (.yield l args H') => ret2 rec fn nt ro base all rest hs o env (rec (.yield l args) H')
  | none => none
def make2 (fn : FuncId) (nt : Nat) (ro : Option Nat) (base : Nat) (all : List Oper) (rest : List Step) (hs : List Heap) (o : Oper) (i : Nat) (env : T Value) (H : Heap) : Option (AObj × (Nat → Value)) → Option Done
  | some (b, f) => put2 rec fn nt ro base all rest hs (H.upd (base + i) b) (dstK nt o.dst (f (base + i)) env)
  | none => none
def pure2 (fn : FuncId) (nt : Nat) (ro : Option Nat) (base : Nat) (all : List Oper) (rest : List Step) (hs : List Heap) (o : Oper) (env : T Value) (H : Heap) : Option Nx → Option Done
  | some (.val v _) => put2 rec fn nt ro base all rest hs H (dstK nt o.dst v env)
  | _ => none
def sameAt (env : T Value) (o : Oper) (v : Value) : List Heap → Bool
  | [] => true
  | H :: Hs => (match op V o.op env H with
    | some (.val u _) => sameV 10 u v
    | _ => false) && sameAt env o v Hs
def peek (env : T Value) (o : Oper) : List Heap → Option Value
  | [] => none
  | H :: Hs => match op V o.op env H with
    | some (.val v _) => match sameAt V env o v Hs with
      | true => some v
      | false => none
    | _ => none
def still2 (fn : FuncId) (nt : Nat) (ro : Option Nat) (base : Nat) (all : List Oper) (rest : List Step) (hs : List Heap) (o : Oper) (env : T Value) (H : Heap) : Bool → Option (List Heap) → Option Done
  | true, some rs => match peek V env o rs with
    | some v => put2 rec fn nt ro base all rest hs H (dstK nt o.dst v env)
    | none => none
  | _, _ => none
def quiet2 (fn : FuncId) (nt : Nat) (ro : Option Nat) (base : Nat) (all : List Oper) (rest : List Step) (hs : List Heap) (s : Step) (o : Oper) (env : T Value) (H : Heap) : Option Done :=
  match mkOp o.op with
  | true => make2 rec fn nt ro base all rest hs o s.op env H (V.mk' (Go.Sp.look env) o.op)
  | false => match pureOp o.op with
    | true => pure2 rec fn nt ro base all rest hs o env H (op V o.op env H)
    | false => still2 V rec fn nt ro base all rest hs o env H (stillOp o.op) (pickL hs s.again)
def two (fn : FuncId) (nt : Nat) (ro : Option Nat) (base : Nat) (all : List Oper) (rest : List Step) (hs : List Heap) (s : Step) (o : Oper) (env : T Value) (H : Heap) : Bool → Option Done
  | false => put2 rec fn nt ro base all rest (match s.loud with | true => hs ++ [H] | false => hs) H (dstK nt o.dst undef env)
  | true => match s.loud with
    | false => quiet2 V rec fn nt ro base all rest hs s o env H
    | true => loud2 rec fn nt ro base all rest hs o env (op V o.op env H)
def plan (fn : FuncId) (nt : Nat) (ro : Option Nat) (base : Nat) (all : List Oper) (todo : List Step) (hs : List Heap) (env : T Value) (H : Heap) : Option Done :=
  match todo with
  | [] => some (.code .normal env H)
  | s :: rest => match all[s.op]? with
    | none => none
    | some o => two V rec fn nt ro base all rest hs s o env H (wantG all o.guard env)

def callEnd (rs : List ResultVar) : Option Done → Option Done
  | some (.code (.exit _) _ _) => none
  | some (.code _ env H') => match resultsOf V H' env rs with
    | some l => some (.val (oneOf l) H')
    | none => none
  | _ => none
def callFn (f : FuncId) (args : List Value) (H : Heap) : Option FV → Option Done
  | none => none
  | some fv => match Nat.ble args.length fv.nt with
    | false => none
    | true => callEnd V fv.results (rec (.code f fv.nt none fv.body (T.ofList args 0 .leaf)) H)
def callExt (args : List Value) (H : Heap) (g : List Value → Heap → Option (Value × Heap)) : Option Done :=
  match g args H with
  | some (v, H') => some (.val v H')
  | none => none
def callJ (f : FuncId) (args : List Value) (H : Heap) : Option Done :=
  match V.ext f with
  | some g => callExt args H g
  | none => callFn V rec f args H (V.fn.get f)

def roundEnd (l : Nat) : Option Done → Option Done
  | some (.code x _ H3) => match H3.get l with
    | some (.loop s3) => match x with
      | .normal => some (.val (.bool true) (H3.upd l (.loop { s3 with state := .ready, pending := none })))
      | .ret => some (.val (.bool false) (H3.upd l (.loop { s3 with state := .done, pending := some .ret })))
      | .exit i => some (.val (.bool false) (H3.upd l (.loop { s3 with state := .done, pending := some (.exit i) })))
    | _ => none
  | _ => none
def roundMid (l : Nat) (s : ALoop) : Option Done → Option Done
  | some (.code .normal env1 H1) => match H1.get l with
    | some (.loop s1) => match s1.state with
      | .ready => roundEnd l (rec (.code s.fn s.nt (some l) s.body env1) (H1.upd l (.loop { s1 with state := .busy })))
      | _ => none
    | _ => none
  | _ => none
def yieldJ (l : Nat) (args : List Value) (H : Heap) : Option Done :=
  match H.get l with
  | some (.loop s) => match s.state with
    | .ready => match putAll s.nt s.params args s.env with
      | none => none
      | some env => roundMid rec l s (rec (.code s.fn s.nt (some l) s.assign env) H)
    | _ => none
  | _ => none

def job (j : Job) (H : Heap) : Option Done :=
  match j with
  | .code fn nt ro c env => code V rec fn nt c ro env H
  | .ops fn nt ro all todo env => ops V rec fn nt ro all todo env H
  | .plan fn nt ro base all todo hs env => plan V rec fn nt ro base all todo hs env H
  | .call f args => callJ V rec f args H
  | .yield l args => yieldJ rec l args H
end

def runO (V : View) : Nat → Job → Heap → Option Done
  | 0, _, _ => none
  | n + 1, j, H => job V (runO V n) j H

def run (V : View) (n : Nat) : Job → Heap → Option Done := Nat.rec (motive := fun _ => Job → Heap → Option Done) (fun _ _ => none) (fun _ ih j H => job V ih j H) n

theorem sameAt_eq (V : View) (env : T Value) (o : Oper) (v : Value) : ∀ hs, sameAt V env o v hs = Go.Sp.sameAt V (Go.Sp.look env) o v hs
  | [] => rfl
  | H :: hs => by simp only [sameAt, Go.Sp.sameAt, op_eq, sameAt_eq V env o v hs]; rfl
theorem peek_eq (V : View) (env : T Value) (o : Oper) : ∀ hs, peek V env o hs = Go.Sp.peek V (Go.Sp.look env) o hs
  | [] => rfl
  | H :: hs => by simp only [peek, Go.Sp.peek, op_eq, sameAt_eq]; rfl

end Fast
end
end Go.Sp

-- Sp.Fast2
/-! The executor in small pieces is the executor. -/
namespace Go.Sp
noncomputable section
namespace Fast
open View

theorem cond_eq (rec : Rec) (fn nt ro c a b env H) : cond rec fn nt ro c a b env H = (match Go.Sp.look env c with
      | .bool true => rec (.code fn nt ro a env) H
      | .bool false => rec (.code fn nt ro b env) H
      | _ => none) := by
  unfold cond
  rw [look_eq]
  cases Go.Sp.look env c <;> first | rfl | (rename_i b; cases b <;> rfl)

theorem do1_eq (rec : Rec) (fn nt ro all rest o env) (r : Option Nx) : do1 rec fn nt ro all rest o env r = (match r with
        | some (.val v H') => match putDst nt o v env with
          | some env' => rec (.ops fn nt ro all rest env') H'
          | none => none
        | some (.enter f args H') => match rec (.call f args) H' with
          | some (.val v H'') => match putDst nt o v env with
            | some env' => rec (.ops fn nt ro all rest env') H''
            | none => none
          | _ => none
        | some (.yield l args H') => match rec (.yield l args) H' with
          | some (.val v H'') => match putDst nt o v env with
            | some env' => rec (.ops fn nt ro all rest env') H''
            | none => none
          | _ => none
        | none => none) := by
  cases r with
  | none => rfl
  | some x =>
    cases x with
    | val v H => simp only [do1, dst_eq]; cases putDst nt o v env <;> rfl
    | enter f args H =>
      simp only [do1]
      cases rec (.call f args) H with
      | none => rfl
      | some d => cases d with
        | code => rfl
        | val v H => simp only [ret1, dst_eq]; cases putDst nt o v env <;> rfl
    | yield l args H =>
      simp only [do1]
      cases rec (.yield l args) H with
      | none => rfl
      | some d => cases d with
        | code => rfl
        | val v H => simp only [ret1, dst_eq]; cases putDst nt o v env <;> rfl

theorem job_eq (V : View) (n : Nat) (j : Job) (H : Heap) : job V (Go.Sp.run V n) j H = Go.Sp.run V (n + 1) j H := by
  cases j with
  | code fn nt ro c env =>
    cases c with
    | cond c a b => simp only [job, code, Go.Sp.run]; exact cond_eq _ _ _ _ _ _ _ _ _
    | seq a b =>
      simp only [job, code, Go.Sp.run]
      cases Go.Sp.run V n (.code fn nt ro a env) H with
      | none => rfl
      | some d => cases d with
        | val => rfl
        | code x e h => cases x <;> rfl
    | loop b =>
      simp only [job, code, Go.Sp.run]
      cases Go.Sp.run V n (.code fn nt ro b env) H with
      | none => rfl
      | some d => cases d with
        | val => rfl
        | code x e h => cases x <;> rfl
    | block i b =>
      simp only [job, code, Go.Sp.run]
      cases Go.Sp.run V n (.code fn nt ro b env) H with
      | none => rfl
      | some d => cases d with
        | val => rfl
        | code x e h => cases x with
          | exit j => simp only [block]; cases Nat.beq i j <;> rfl
          | _ => rfl
    | region id ops draw =>
      simp only [job, code, Go.Sp.run]
      cases draw with
      | false => rfl
      | true =>
        simp only [region]
        cases V.plan.get fn with
        | none => rfl
        | some t => simp only; cases t.get id <;> rfl
    | rangeFunc f ps as b =>
      simp only [job, code, Go.Sp.run, range, look_eq]
      cases roundLive H ro with
      | false => rfl
      | true =>
        simp only
        cases V.callValue (H.push (.loop ⟨.ready, none, fn, env, nt, ps.toList, as, b⟩)) (Go.Sp.look env f) [.func (.yield H.next) #[] #[]] with
        | none => rfl
        | some x => cases x with
          | enter g args H1 =>
            simp only
            cases Go.Sp.run V n (.call g args) (H.push (.loop ⟨.ready, none, fn, env, nt, ps.toList, as, b⟩)) with
            | none => rfl
            | some d => cases d with
              | code => rfl
              | val v H2 =>
                simp only [rangeEnd]
                cases H2.get H.next with
                | none => rfl
                | some o => cases o with
                  | loop s => simp only; cases s.state <;> rfl
                  | _ => rfl
          | _ => rfl
    | _ => rfl
  | ops fn nt ro all todo env =>
    cases todo with
    | nil => rfl
    | cons o rest =>
      simp only [job, ops, Go.Sp.run, want_eq]
      cases wantedA all env o with
      | false => simp only [one, dst_eq]; cases putDst nt o undef env <;> rfl
      | true => simp only [one, op_eq]; exact do1_eq _ _ _ _ _ _ _ _ _
  | plan fn nt ro base all todo hs env =>
    cases todo with
    | nil => rfl
    | cons s rest =>
      simp only [job, plan, Go.Sp.run]
      cases all[s.op]? with
      | none => rfl
      | some o =>
        simp only [want_eq]
        cases wantedA all env o with
        | false => simp only [two, dst_eq]; cases putDst nt o undef env <;> cases s.loud <;> rfl
        | true =>
          simp only [two]
          cases s.loud with
          | false =>
            simp only [quiet2]
            cases mkOp o.op with
            | true =>
              simp only
              cases V.mk' (Go.Sp.look env) o.op with
              | none => rfl
              | some p => obtain ⟨b, f⟩ := p; simp only [make2, dst_eq]; cases putDst nt o (f (base + s.op)) env <;> rfl
            | false =>
              simp only
              cases pureOp o.op with
              | true =>
                simp only [op_eq]
                cases V.op (Go.Sp.look env) H o.op with
                | none => rfl
                | some x => cases x with
                  | val v H1 => simp only [pure2, dst_eq]; cases putDst nt o v env <;> rfl
                  | _ => rfl
              | false =>
                simp only
                cases stillOp o.op with
                | false => rfl
                | true => cases pickL hs s.again with
                  | none => rfl
                  | some rs =>
                    simp only [still2, peek_eq]
                    cases Go.Sp.peek V (Go.Sp.look env) o rs with
                    | none => rfl
                    | some v => simp only [dst_eq]; cases putDst nt o v env <;> rfl
          | true =>
            simp only [op_eq]
            cases V.op (Go.Sp.look env) H o.op with
            | none => rfl
            | some x => cases x with
              | val v H1 => simp only [loud2, dst_eq]; cases putDst nt o v env <;> rfl
              | enter f args H1 =>
                simp only [loud2]
                cases Go.Sp.run V n (.call f args) H1 with
                | none => rfl
                | some d => cases d with
                  | code => rfl
                  | val v H2 => simp only [ret2, dst_eq]; cases putDst nt o v env <;> rfl
              | yield l args H1 =>
                simp only [loud2]
                cases Go.Sp.run V n (.yield l args) H1 with
                | none => rfl
                | some d => cases d with
                  | code => rfl
                  | val v H2 => simp only [ret2, dst_eq]; cases putDst nt o v env <;> rfl
  | call f args =>
    simp only [job, callJ, Go.Sp.run]
    cases V.ext f with
    | some g => simp only [callExt]; cases g args H with
      | none => rfl
      | some p => rfl
    | none =>
      simp only
      cases V.fn.get f with
      | none => rfl
      | some fv =>
        simp only [callFn]
        cases Nat.ble args.length fv.nt with
        | false => rfl
        | true =>
          simp only
          cases Go.Sp.run V n (.code f fv.nt none fv.body (T.ofList args 0 .leaf)) H with
          | none => rfl
          | some d => cases d with
            | val => rfl
            | code x e h => cases x with
              | exit i => rfl
              | normal => simp only [callEnd]; cases resultsOf V h e fv.results <;> rfl
              | ret => simp only [callEnd]; cases resultsOf V h e fv.results <;> rfl
  | yield l args =>
    simp only [job, yieldJ, Go.Sp.run]
    cases H.get l with
    | none => rfl
    | some o => cases o with
      | loop s =>
        simp only
        cases s.state with
        | ready =>
          simp only
          cases putAll s.nt s.params args s.env with
          | none => rfl
          | some env =>
            simp only
            cases Go.Sp.run V n (.code s.fn s.nt (some l) s.assign env) H with
            | none => rfl
            | some d => cases d with
              | val => rfl
              | code x env1 H1 => cases x with
                | normal =>
                  simp only [roundMid]
                  cases H1.get l with
                  | none => rfl
                  | some o1 => cases o1 with
                    | loop s1 =>
                      simp only
                      cases s1.state with
                      | ready =>
                        simp only
                        cases Go.Sp.run V n (.code s.fn s.nt (some l) s.body env1) (H1.upd l (.loop { s1 with state := .busy })) with
                        | none => rfl
                        | some d => cases d with
                          | val => rfl
                          | code x e3 H3 =>
                            simp only [roundEnd]
                            cases H3.get l with
                            | none => rfl
                            | some o3 => cases o3 with
                              | loop s3 => cases x <;> rfl
                              | _ => rfl
                      | _ => rfl
                    | _ => rfl
                | _ => rfl
        | _ => rfl
      | _ => rfl

theorem run_eq (V : View) : ∀ (n : Nat) (j : Job) (H : Heap), run V n j H = Go.Sp.run V n j H
  | 0, j, H => by cases j <;> rfl
  | n + 1, j, H => by
    have : run V n = Go.Sp.run V n := funext fun j => funext fun H => run_eq V n j H
    show job V (run V n) j H = _
    rw [this]
    exact job_eq V n j H
end Fast
end
end Go.Sp

