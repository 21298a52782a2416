/- DiagramSmall returns true, whatever memory it is called in; the two package variables that it reads hold what the program's text lays. This text: the executor that the proof uses, and its soundness. -/
import Derived.Test.YtdnamglihacbcaaGreatDoorS1
import Derived.LaidLaws
import Derived.Lay
import Derived.RowKitTokens
-- Sp.Close
/-! Closed work, in pieces: a chain of statements with stations between; a closed call as a contract. -/
namespace Go.Sp
noncomputable section

section
variable {P : Program} {V : View} {G : Nat} {Pl : FuncId → Nat → Array Oper → Prop}

/-- A call, where its body is known to go. -/
theorem callOf (hV : VOk P V G Pl) {f : FuncId} {fv : FV} (hfv : V.fn.get f = some fv) {args : List Value} (hle : args.length ≤ fv.nt) {x : AExit} {env : T Value} {H H1 : Heap} {l : List Value}
    (hx : ∀ i, x ≠ .exit i) (hres : resultsOf V H1 env fv.results = some l)
    (hb : ∀ β w base tmps, HRel (okC P G Pl) β H w base → GRel G β → ERel β fv.nt (T.ofList args 0 .leaf) tmps → Goes P G Pl f fv.nt none β H w base tmps [] (.code fv.body) x env H1) :
    ∀ β w base args', HRel (okC P G Pl) β H w base → GRel G β → LRel β args args'.toList → CallGives P G Pl β H w base f args' (oneOf l) H1 := by
  intro β w base args' h hgr hl
  obtain ⟨hr, hcode, fnn, hf1, hf2, hf3, hf4⟩ := hV.fn f fv hfv
  obtain ⟨β', w', tmps', rs', a1, a2, a3, a4, a5, a6⟩ := hb β w base (args' ++ Array.replicate (fnn.ntmps - args'.size) undef) h hgr (by rw [hf2]; exact ERel.args hl hle)
  obtain ⟨w2, b1, b2, b3, b4, b5, b6, b7⟩ := unwindAll (P := P) (fn := f) (tmps := tmps') rs' w' a1 a4
  obtain ⟨v', c1, c2⟩ := sim_results hV.ty b1 a2 hf3 hres
  have hpost := a3.aside (fun r hr => (a5 r hr).resolve_left (by simp)) b2 b3 b4 b5 b6
  refine ⟨β', w2, v', b1, c2, hpost, fun cs => ?_⟩
  have start : lone (Frame.enter P f args' .normal) cs w = lone (mkF f (args' ++ Array.replicate (fnn.ntmps - args'.size) undef) [.code fv.body] [] none) cs w := by
    rw [enter_eq P f args' fnn fv.body hf1 hf4]
  rw [start]
  have back : ∀ k2, Steps P (lone (mkF f (args' ++ Array.replicate (fnn.ntmps - args'.size) undef) [.code fv.body] [] none) cs w) (lone { mkF f tmps' k2 (rs'.map dmark) none with mode := .returning } cs w') →
      ∃ fr, fr.leaving P w2 (.returned v') ∧ fr.fn = f ∧ Steps P (lone (mkF f (args' ++ Array.replicate (fnn.ntmps - args'.size) undef) [.code fv.body] [] none) cs w) (lone fr cs w2) := by
    intro k2 hs
    exact ⟨_, ⟨rfl, rfl, rfl, fnn, hf1, c1⟩, rfl, hs.trans (b7 k2 cs)⟩
  have := a6 [] cs
  cases x with
  | normal => exact back [] (this.trans (.one (st_end rfl)))
  | ret => obtain ⟨k2, s⟩ := this; exact back (.code .ret :: k2) (s.trans (.one (st_ret rfl)))
  | exit i => exact absurd rfl (hx i)

theorem Goes.weaken {fn : FuncId} {nt : Nat} {ro' : Option Nat} {β : Ren} {H : Heap} {w : World} {base : Nat} {tmps : Array Value} {rs : List Nat} {it : Item} {x : AExit} {env1 env2 : T Value} {H1 H2 : Heap}
    (g : Goes P G Pl fn nt ro' β H w base tmps rs it x env1 H1) (he : ∀ t, look env2 (.tmp t) = look env1 (.tmp t)) (hs : Sub H2 H1) (hn : H2.next = H1.next) : Goes P G Pl fn nt ro' β H w base tmps rs it x env2 H2 := by
  obtain ⟨β', w', tmps', rs', a1, a2, a3, a4, a5, a6⟩ := g
  exact ⟨β', w', tmps', rs', a1.sub hs hn, ⟨a2.size, fun t => by rw [he]; exact a2.all t⟩, a3.sub hs hn, a4, a5, a6⟩

/-- A chain of statements; between them stations: what is still needed. -/
inductive Chain (V : View) (fn nt : Nat) : Code → T Value → Heap → AExit → T Value → Heap → Prop
  | last {c : Code} {env : T Value} {H : Heap} {x : AExit} {env' : T Value} {H' : Heap} (n : Nat) : run V n (.code fn nt none c env) H = some (.code x env' H') → Chain V fn nt c env H x env' H'
  | seq {a b : Code} {env : T Value} {H : Heap} {e : T Value} {h : Heap} {e2 : T Value} {H2 : Heap} {x : AExit} {env' : T Value} {H' : Heap} (n : Nat) : run V n (.code fn nt none a env) H = some (.code .normal e h) →
      (∀ t, look e2 (.tmp t) = look e (.tmp t)) → Sub H2 h → H2.next = h.next → Chain V fn nt b e2 H2 x env' H' → Chain V fn nt (.seq a b) env H x env' H'

theorem Chain.goes {V : View} (hV : VOk P V G (PlOf V)) {fn nt : Nat} {c : Code} {env : T Value} {H : Heap} {x : AExit} {env' : T Value} {H' : Heap} (h : Chain V fn nt c env H x env' H') :
    ∀ β w base tmps rs, HRel (okC P G (PlOf V)) β H w base → GRel G β → ERel β nt env tmps → DefsOk rs w → CodeOk P G (PlOf V) fn c → Goes P G (PlOf V) fn nt none β H w base tmps rs (.code c) x env' H' := by
  induction h with
  | last n hr => intro β w base tmps rs h1 h2 h3 h4 h5; exact (simAll hV n n (Nat.le_refl n)).code fn nt none _ _ _ _ _ _ hr β w base tmps rs none h1 h2 h3 trivial h4 h5
  | seq n hr he hs hn _ ih =>
    intro β w base tmps rs h1 h2 h3 h4 h5
    have g1 := ((simAll hV n n (Nat.le_refl n)).code fn nt none _ _ _ _ _ _ hr β w base tmps rs none h1 h2 h3 trivial h4 h5.1).weaken he hs hn
    obtain ⟨β', w', tmps', rs', a1, a2, a3, a4, a5, a6⟩ := Goes.seq h1 g1 (.code _) (fun β1 w1 tmps1 rs1 k1 kl k2 k3 => ih β1 w1 base tmps1 rs1 k1 (h2.mono kl) k2 k3 h5.2)
    exact ⟨β', w', tmps', rs', a1, a2, a3, a4, a5, fun k cs => Reach.of_steps (.one st_seq) (a6 k cs)⟩

/-- A world that has grown. -/
theorem HRel.grow {ok : FuncId → Nat → Code → Prop} {β : Ren} {H : Heap} {w w' : World} {base : Nat} (h : HRel ok β H w base) (hk : ∀ k, k < w.heap.size → w'.heap[k]? = w.heap[k]?) (hs : w.heap.size ≤ w'.heap.size) : HRel ok β H w' base := by
  refine ⟨h.dom, h.lt, ?_, h.own, h.sep, Nat.le_trans h.le hs⟩
  intro b o e
  obtain ⟨t, x, e1, e2, e3⟩ := h.live b o e
  exact ⟨t, x, e1, by rw [hk _ (Array.getElem?_eq_some_iff.1 e2).1]; exact e2, e3⟩

/-- Whether the blocks that a value names lie below a number. -/
def refsB (N : Nat) : Nat → Value → Bool
  | 0, _ => false
  | n + 1, v => match v with
    | .bool _ | .int _ _ | .string _ | .pointer none | .map none | .nilFunc | .nilIface => true
    | .slice none _ _ => true
    | .pointer (some a) => Nat.blt a.block N
    | .slice (some a) _ _ => Nat.blt a.block N
    | .map (some r) => Nat.blt r N
    | .func (.func _) a c => a.toList.all (refsB N n) && c.toList.all (refsB N n)
    | .agg a | .tuple a => a.toList.all (refsB N n)
    | _ => false

def cut (β : Ren) (N : Nat) : Ren := fun b => if b < N then β b else none
theorem cut_some {β : Ren} {N b : Nat} {t : Tgt} (h : b < N) (e : β b = some t) : cut β N b = some t := by simp [cut, h, e]
theorem cut_inv {β : Ren} {N b : Nat} {t : Tgt} (e : cut β N b = some t) : b < N ∧ β b = some t := by
  unfold cut at e
  split at e
  · exact ⟨by assumption, e⟩
  · cases e

theorem vrel_cut {β : Ren} {N : Nat} : ∀ (n : Nat) (v v' : Value), refsB N n v = true → VRel β v v' → VRel (cut β N) v v' := by
  intro n
  induction n with
  | zero => intro v v' h; simp [refsB] at h
  | succ n ih =>
    intro v v' h r
    have arr : ∀ (a a' : Array Value), a.toList.all (refsB N n) = true → (∀ i, i < a.size → VRel β (a.getD i undef) (a'.getD i undef)) → ∀ i, i < a.size → VRel (cut β N) (a.getD i undef) (a'.getD i undef) := by
      intro a a' ha k i hi
      refine ih _ _ (List.all_eq_true.1 ha _ ?_) (k i hi)
      have : a.getD i undef = a[i] := by simp [Array.getD, hi]
      rw [this]
      exact Array.mem_toList_iff.2 (Array.getElem_mem hi)
    cases r with
    | bool b => exact .bool b
    | int k n => exact .int k n
    | string s => exact .string s
    | pnil => exact .pnil
    | ptr e => exact .ptr (cut_some (Nat.le_of_ble_eq_true h) e)
    | snil => exact .snil
    | slice e a b c d => exact .slice (cut_some (Nat.le_of_ble_eq_true h) e) a b c d
    | mnil => exact .mnil
    | map e => exact .map (cut_some (Nat.le_of_ble_eq_true h) e)
    | func f a b c d =>
      cases f with
      | func f =>
        simp only [refsB, Bool.and_eq_true] at h
        exact .func (.func f) a (arr _ _ h.1 b) c (arr _ _ h.2 d)
      | via t p f b => simp [refsB] at h
      | yield e => simp [refsB] at h
    | nilFunc => exact .nilFunc
    | nilIface => exact .nilIface
    | iface r => simp [refsB] at h
    | agg a b => exact .agg a (arr _ _ (by simpa [refsB] using h) b)
    | tuple a b => exact .tuple a (arr _ _ (by simpa [refsB] using h) b)

/-- A plain value has one counterpart alone. -/
theorem plain_one {β : Ren} : ∀ (n : Nat) (v v' : Value), plainV n v = true → VRel β v v' → v' = v := by
  intro n
  induction n with
  | zero => intro v v' h; simp [plainV] at h
  | succ n ih =>
    intro v v' h r
    have arr : ∀ (a a' : Array Value), a.toList.all (plainV n) = true → a.size = a'.size → (∀ i, i < a.size → VRel β (a.getD i undef) (a'.getD i undef)) → a' = a := by
      intro a a' ha hs k
      apply Array.ext
      · exact hs.symm
      · intro i h1 h2
        have e1 : a.getD i undef = a[i] := by simp [Array.getD, h2]
        have e2 : a'.getD i undef = a'[i] := by simp [Array.getD, h1]
        have := k i h2
        rw [e1, e2] at this
        exact ih _ _ (List.all_eq_true.1 ha _ (Array.mem_toList_iff.2 (Array.getElem_mem h2))) this
    cases r with
    | bool b => rfl
    | int k n => rfl
    | string s => rfl
    | pnil => rfl
    | ptr e => simp [plainV] at h
    | snil => rfl
    | slice e a b c d => simp [plainV] at h
    | mnil => rfl
    | map e => simp [plainV] at h
    | func f a b c d =>
      cases f with
      | func f =>
        simp only [plainV, Bool.and_eq_true] at h
        rw [arr _ _ h.1 a b, arr _ _ h.2 c d]
      | via t p f b => simp [plainV] at h
      | yield e => simp [plainV] at h
    | nilFunc => rfl
    | nilIface => rfl
    | iface r => simp [plainV] at h
    | agg a b => rw [arr _ _ (by simpa [plainV] using h) a b]
    | tuple a b => rw [arr _ _ (by simpa [plainV] using h) a b]

/-- Objects that a closed call may find: read alone, of plain parts and of each other. -/
def fixedB (N : Nat) : AObj → Bool
  | .cells false _ c => c.all (refsB N 10)
  | .map false es _ => es.all fun e => refsB N 10 e.key && refsB N 10 e.val
  | _ => false

theorem orel_cut {β : Ren} {N : Nat} {ok : FuncId → Nat → Code → Prop} {o : AObj} {x : Obj} {t : Tgt} (h : fixedB N o = true) (r : ORel β ok o x t) : ORel (cut β N) ok o x t := by
  cases r with
  | cells a b c d =>
    rename_i own g l l' e fz
    cases own with
    | true => simp [fixedB] at h
    | false =>
      simp only [fixedB, List.all_eq_true] at h
      exact .cells a b c fun i v e => let ⟨v', p, q⟩ := d i v e; ⟨v', p, vrel_cut 10 _ _ (h v (List.mem_of_getElem? e)) q⟩
  | map m =>
    rename_i own es es' clock
    cases own with
    | true => simp [fixedB] at h
    | false =>
      simp only [fixedB, List.all_eq_true, Bool.and_eq_true] at h
      refine .map ⟨m.1, fun i e k => ?_⟩
      obtain ⟨e', p, q⟩ := m.2 i e k
      have := h e (List.mem_of_getElem? k)
      exact ⟨e', p, q.1, vrel_cut 10 _ _ this.1 q.2.1, vrel_cut 10 _ _ this.2 q.2.2⟩
  | loop _ => simp [fixedB] at h

/-- A closed call: from what is fixed alone; its value is plain. -/
theorem closedCall {H0 : Heap} {f : FuncId} {v : Value} {H0' : Heap} (hf : ∀ b o, H0.get b = some o → b < H0.next ∧ fixedB H0.next o = true) (hG : G ≤ H0.next) (hp : plainV 10 v = true)
    (hc : ∀ β w base args', HRel (okC P G Pl) β H0 w base → GRel G β → LRel β [] args'.toList → CallGives P G Pl β H0 w base f args' v H0') :
    ∀ H, Sub H0 H → ∀ β w base args', HRel (okC P G Pl) β H w base → GRel G β → LRel β [] args'.toList → CallGives P G Pl β H w base f args' v H := by
  intro H hsub β w base args' h hg hl
  have own0 : ∀ b o, H0.get b = some o → o.own = true → False := by
    intro b o e k
    have := (hf b o e).2
    cases o with
    | cells own g c => simp only [AObj.own] at k; subst k; simp [fixedB] at this
    | map own es clock => simp only [AObj.own] at k; subst k; simp [fixedB] at this
    | loop l => simp [fixedB] at this
  have h0 : HRel (okC P G Pl) (cut β H0.next) H0 w base := by
    refine ⟨fun b t e => (cut_inv e).1, fun b o e => (hf b o e).1, ?_, fun b o t e k => (own0 b o e k).elim, fun b o b' o' t t' e k => (own0 b o e k).elim, h.le⟩
    intro b o e
    obtain ⟨t, x, e1, e2, e3⟩ := h.live b o (hsub b o e)
    exact ⟨t, x, cut_some (hf b o e).1 e1, e2, orel_cut (hf b o e).2 e3⟩
  have hg0 : GRel G (cut β H0.next) := fun g hlt => let ⟨t, a, b⟩ := hg g hlt; ⟨t, cut_some (by omega) a, b⟩
  have hl0 : LRel (cut β H0.next) [] args'.toList := by rw [LRel.nil_inv hl]; exact LRel.nil _
  obtain ⟨β', w', v', a1, a2, a3, a4⟩ := hc _ w base args' h0 hg0 hl0
  have hvv : v' = v := by
    -- a plain value has one counterpart alone
    exact plain_one 10 v v' hp a2
  subst hvv
  have hk : ∀ k, k < w.heap.size → w'.heap[k]? = w.heap[k]? := fun k hk => a3.keep k hk fun b o t e1 e2 _ => (own0 b o e1 e2).elim
  refine ⟨β, w', v', h.grow hk a3.size, VRel.plain 10 v' hp, ⟨Ren.le_refl β, Nat.le_refl _, fun _ _ h => .inl h, fun _ _ h k => (by rw [h] at k; cases k), fun _ o' _ h => ⟨o', h, fun k => k⟩, fun k hk2 _ => hk k hk2, a3.os, a3.tape, a3.output, a3.size⟩, a4⟩
end
end
end Go.Sp

-- Sp.Close2
/-! Stations, checked by computation; contracts of closed calls. -/
namespace Go.Sp
noncomputable section

def sameO : Option Value → Option Value → Bool
  | none, none => true
  | some u, some v => sameV 10 u v
  | _, _ => false
theorem sameO_sound {a b : Option Value} (h : sameO a b = true) : a = b := by
  cases a <;> cases b <;> simp only [sameO] at h <;> first | rfl | (cases h; done) | skip
  rw [(sameV_sound 10).1 _ _ h]

def emptyT : T Value → Bool
  | .leaf => true
  | .node l v r => v.isNone && emptyT l && emptyT r
theorem emptyT_sound : ∀ (t : T Value), emptyT t = true → ∀ k, t.get k = none
  | .leaf, _, k => T.get_leaf k
  | .node l v r, h, k => by
    simp only [emptyT, Bool.and_eq_true] at h
    rw [T.get_node]
    split
    · cases v with
      | none => rfl
      | some v => simp at h
    · split
      · exact emptyT_sound l h.1.2 _
      · exact emptyT_sound r h.2 _
def sameT : T Value → T Value → Bool
  | .leaf, b => emptyT b
  | .node l v r, .leaf => emptyT (.node l v r)
  | .node l v r, .node l' v' r' => sameO v v' && sameT l l' && sameT r r'
theorem sameT_sound : ∀ (a b : T Value), sameT a b = true → ∀ k, a.get k = b.get k
  | .leaf, b, h, k => by rw [T.get_leaf, emptyT_sound b h]
  | .node l v r, .leaf, h, k => by rw [T.get_leaf, emptyT_sound _ h]
  | .node l v r, .node l' v' r', h, k => by
    simp only [sameT, Bool.and_eq_true] at h
    rw [T.get_node, T.get_node, sameO_sound h.1.1, sameT_sound l l' h.1.2, sameT_sound r r' h.2]

def sameE : List MapEntry → List MapEntry → Bool
  | [], [] => true
  | a :: l, b :: m => sameV 10 a.key b.key && sameV 10 a.val b.val && Nat.beq a.born b.born && sameE l m
  | _, _ => false
theorem sameE_sound : ∀ (l m : List MapEntry), sameE l m = true → l = m
  | [], [], _ => rfl
  | [], _ :: _, h => by simp [sameE] at h
  | _ :: _, [], h => by simp [sameE] at h
  | a :: l, b :: m, h => by
    simp only [sameE, Bool.and_eq_true] at h
    rw [sameE_sound l m h.2]
    have h1 := (sameV_sound 10).1 _ _ h.1.1.1
    have h2 := (sameV_sound 10).1 _ _ h.1.1.2
    have h3 := beq_eq h.1.2
    cases a; cases b
    simp only at h1 h2 h3
    rw [h1, h2, h3]

def sameObj : AObj → AObj → Bool
  | .cells o g c, .cells o' g' c' => (o == o') && Nat.beq g g' && sameV.sameL 10 c c'
  | .map o es k, .map o' es' k' => (o == o') && sameE es es' && Nat.beq k k'
  | _, _ => false
theorem sameObj_sound {a b : AObj} (h : sameObj a b = true) : a = b := by
  cases a <;> cases b <;> simp only [sameObj, Bool.and_eq_true] at h <;> first | (cases h; done) | skip
  · rw [eq_of_beq h.1.1, beq_eq h.1.2, (sameV_sound 10).2 _ _ h.2]
  · rw [eq_of_beq h.1.1, sameE_sound _ _ h.1.2, beq_eq h.2]

/-- Whether a heap has what a list tells. -/
def hasB : List (Nat × AObj) → Heap → Bool
  | [], _ => true
  | (b, o) :: l, H => (match H.get b with
    | some o' => sameObj o o'
    | none => false) && hasB l H
theorem hasB_sound : ∀ (l : List (Nat × AObj)) (H : Heap), hasB l H = true → ∀ b o, (b, o) ∈ l → H.get b = some o
  | [], _, _, _, _, h => by simp at h
  | (b', o') :: l, H, h, b, o, hm => by
    simp only [hasB, Bool.and_eq_true] at h
    rcases List.mem_cons.1 hm with e | e
    · cases e
      have := h.1
      split at this
      · rename_i x hx; rw [hx, sameObj_sound this]
      · cases this
    · exact hasB_sound l H h.2 b o e
theorem sub_of_hasB {H2 H : Heap} (h : hasB (H2.t.toL 1 0) H = true) : Sub H2 H := fun b o e => hasB_sound _ _ h b o (T.mem_of_get e)

def stationB (e2 : T Value) (H2 : Heap) : Option Done → Bool
  | some (.code .normal e h) => sameT e2 e && hasB (H2.t.toL 1 0) h && Nat.beq H2.next h.next
  | _ => false

theorem Chain.station {V : View} {fn nt : Nat} {a b : Code} {env : T Value} {H : Heap} {e2 : T Value} {H2 : Heap} {x : AExit} {env' : T Value} {H' : Heap} (n : Nat)
    (h : stationB e2 H2 (Fast.run V n (.code fn nt none a env) H) = true) (k : Chain V fn nt b e2 H2 x env' H') : Chain V fn nt (.seq a b) env H x env' H' := by
  rw [Fast.run_eq] at h
  unfold stationB at h
  split at h
  · rename_i e h1 hr
    simp only [Bool.and_eq_true] at h
    refine Chain.seq n hr (fun t => ?_) (sub_of_hasB h.1.2) (beq_eq h.2) k
    simp only [look, sameT_sound _ _ h.1.1 t]
  · cases h

/-- How a chain ends: the function's one result. -/
def Ends (V : View) (fn : Nat) (fv : FV) (c : Code) (env : T Value) (H : Heap) (v : Value) : Prop :=
  ∃ x env' H', Chain V fn fv.nt c env H x env' H' ∧ (∀ i, x ≠ .exit i) ∧ resultsOf V H' env' fv.results = some [v]

def endB (V : View) (rs : List ResultVar) (v : Value) : Option Done → Bool
  | some (.code (.exit _) _ _) => false
  | some (.code _ e h) => match resultsOf V h e rs with
    | some [u] => sameV 10 u v
    | _ => false
  | _ => false

theorem Ends.last {V : View} {fn : Nat} {fv : FV} {c : Code} {env : T Value} {H : Heap} {v : Value} (n : Nat) (h : endB V fv.results v (Fast.run V n (.code fn fv.nt none c env) H) = true) : Ends V fn fv c env H v := by
  rw [Fast.run_eq] at h
  unfold endB at h
  split at h
  · cases h
  · rename_i x e h1 hx hr
    split at h
    · rename_i u hu
      have := (sameV_sound 10).1 _ _ h
      subst this
      exact ⟨x, e, h1, .last n hr, fun i hi => hx i hi, hu⟩
    · cases h
  · cases h
theorem Ends.station {V : View} {fn : Nat} {fv : FV} {a b : Code} {env : T Value} {H : Heap} {e2 : T Value} {H2 : Heap} {v : Value} (n : Nat)
    (h : stationB e2 H2 (Fast.run V n (.code fn fv.nt none a env) H) = true) (k : Ends V fn fv b e2 H2 v) : Ends V fn fv (.seq a b) env H v := by
  obtain ⟨x, env', H', k1, k2, k3⟩ := k
  exact ⟨x, env', H', Chain.station n h k1, k2, k3⟩

/-- The contract of a closed call. -/
def fixedCall (H0 : Heap) (v : Value) : List Value → Heap → Option (Value × Heap)
  | [], H => match hasB (H0.t.toL 1 0) H with
    | true => some (v, H)
    | false => none
  | _, _ => none

def fixedHeapB (H0 : Heap) : Bool := (H0.t.toL 1 0).all fun x => Nat.blt x.1 H0.next && fixedB H0.next x.2

section
variable {P : Program} {V : View} {G : Nat}

theorem Ends.gives (hV : VOk P V G (PlOf V)) {f : FuncId} {fv : FV} (hfv : V.fn.get f = some fv) {H0 : Heap} {v : Value} (h : Ends V f fv fv.body .leaf H0 v) :
    ∃ H', ∀ β w base args', HRel (okC P G (PlOf V)) β H0 w base → GRel G β → LRel β [] args'.toList → CallGives P G (PlOf V) β H0 w base f args' v H' := by
  obtain ⟨x, env', H', k1, k2, k3⟩ := h
  obtain ⟨_, hcode, _⟩ := hV.fn f fv hfv
  refine ⟨H', fun β w base args' h1 h2 h3 => ?_⟩
  exact callOf (args := []) hV hfv (Nat.zero_le _) k2 k3 (fun β w base tmps a b c => k1.goes hV β w base tmps [] a b c ⟨List.nodup_nil, fun r hr => by simp at hr⟩ hcode) β w base args' h1 h2 h3

theorem fixedCall_ok (hV : VOk P V G (PlOf V)) {f : FuncId} {fv : FV} (hfv : V.fn.get f = some fv) {H0 : Heap} {v : Value} (h : Ends V f fv fv.body .leaf H0 v) (hf : fixedHeapB H0 = true) (hG : G ≤ H0.next) (hp : plainV 10 v = true) :
    ∀ args H v' H', fixedCall H0 v args H = some (v', H') → ∀ β w base args', HRel (okC P G (PlOf V)) β H w base → GRel G β → LRel β args args'.toList → CallGives P G (PlOf V) β H w base f args' v' H' := by
  intro args H v' H' e β w base args' h1 h2 h3
  obtain ⟨H0', hc⟩ := h.gives hV hfv
  unfold fixedCall at e
  split at e
  · split at e
    · rename_i hb
      cases e
      refine closedCall (fun b o e => ?_) hG hp hc _ (sub_of_hasB hb) β w base args' h1 h2 h3
      have := List.all_eq_true.1 hf _ (T.mem_of_get e)
      simp only [Bool.and_eq_true] at this
      exact ⟨Nat.le_of_ble_eq_true this.1, this.2⟩
    · cases e
  · cases e

/-- What is known besides is added to a view. -/
theorem VOk.withExt (hV : VOk P V G (PlOf V)) (ext : FuncId → Option (List Value → Heap → Option (Value × Heap)))
    (h : ∀ f g, ext f = some g → FnRuns P f ∧ ∀ args H v H', g args H = some (v, H') → ∀ β w base args', HRel (okC P G (PlOf V)) β H w base → GRel G β → LRel β args args'.toList → CallGives P G (PlOf V) β H w base f args' v H') :
    VOk P { V with ext := ext } G (PlOf { V with ext := ext }) := ⟨hV.ty, hV.fn, hV.mixed, h⟩
end
end
end Go.Sp

namespace Go.Sp
noncomputable section
def first : Code → Code
  | .seq a _ => a
  | c => c
def rest : Code → Code
  | .seq _ b => b
  | c => c
def isSeq : Code → Bool
  | .seq _ _ => true
  | _ => false
theorem Ends.next {V : View} {fn : Nat} {fv : FV} {c : Code} {env : T Value} {H : Heap} {e2 : T Value} {H2 : Heap} {v : Value} (n : Nat) (hc : isSeq c = true)
    (h : stationB e2 H2 (Fast.run V n (.code fn fv.nt none (first c) env) H) = true) (k : Ends V fn fv (rest c) e2 H2 v) : Ends V fn fv c env H v := by
  cases c <;> first | (cases hc; done) | skip
  exact Ends.station n h k
end
end Go.Sp

-- Sp.Row
/-! Closed statements: from what the package variables hold to a row. -/
namespace Go.Sp
noncomputable section
open Go.RowKit (Below)


mutual
/-- The cells of a plain datum at a type. -/
def flat (P : Program) : Nat → TypeId → DataW Unit → Option (List Value)
  | 0, _, _ => none
  | n + 1, t, d => match P.underlying t, d with
    | some .bool, .lit (.bool b) => some [.bool b]
    | some (.int _), .lit (.int k z) => some [.int k z]
    | some (.struct fs), .agg ds => match flatF P n (fs.toList.map fun f => (f.type, f.offset)) 0 ds with
      | some c => match Nat.beq c.length (P.cellsOf t) with
        | true => some c
        | false => none
      | none => none
    | some (.array _ e), .agg ds => match flatE P n e ds with
      | some c => match Nat.beq c.length (P.cellsOf t) with
        | true => some c
        | false => none
      | none => none
    | _, _ => none
def flatF (P : Program) : Nat → List (TypeId × Nat) → Nat → List (DataW Unit) → Option (List Value)
  | 0, _, _, _ => none
  | _ + 1, [], _, _ => some []
  | n + 1, (t, o) :: fs, at', d :: ds => match flat P n t d with
    | some c => match Nat.beq o at' && Nat.beq c.length (P.cellsOf t) with
      | true => match flatF P n fs (at' + c.length) ds with
        | some r => some (c ++ r)
        | none => none
      | false => none
    | none => none
  | _ + 1, _, _, _ => none
def flatE (P : Program) : Nat → TypeId → List (DataW Unit) → Option (List Value)
  | 0, _, _ => none
  | _ + 1, _, [] => some []
  | n + 1, e, d :: ds => match flat P n e d with
    | some c => match Nat.beq c.length (P.cellsOf e) with
      | true => match flatE P n e ds with
        | some r => some (c ++ r)
        | none => none
      | false => none
    | none => none
end

theorem mapM_cons_inv {α β : Type} {f : α → Option β} {a : α} {l : List α} {xs : List β} (h : (a :: l).mapM f = some xs) : ∃ x ys, f a = some x ∧ l.mapM f = some ys ∧ xs = x :: ys := by
  rw [List.mapM_cons] at h
  cases h1 : f a with
  | none => simp [h1] at h
  | some x =>
    cases h2 : l.mapM f with
    | none => simp [h1, h2] at h
    | some ys => simp [h1, h2] at h; exact ⟨x, ys, rfl, rfl, h.symm⟩

theorem mapM_nil_inv {α β : Type} {f : α → Option β} {xs : List β} (h : ([] : List α).mapM f = some xs) : xs = [] := by
  simp [List.mapM_nil] at h; exact h
theorem piece {cs c : List Value} {o n : Nat} (h : (cs.drop o).take n = c) (_ : c.length = n) : cs.drop o = c ++ cs.drop (o + n) := by
  rw [← h, ← List.drop_drop, List.take_append_drop]
theorem whole_of {cs c : List Value} (h : ∃ r, cs.drop 0 = c ++ r) (hl : cs.length = c.length) : cs = c := by
  obtain ⟨r, hr⟩ := h
  rw [List.drop_zero] at hr
  rw [hr, List.length_append] at hl
  have : r = [] := List.length_eq_zero_iff.1 (by omega)
  rw [hr, this, List.append_nil]

section
variable {P : Program} {w : World} {base : Nat} {sp : Nat → Bool} {hd : Bool}
abbrev rdU (P : Program) (w : World) (base : Nat) (sp : Nat → Bool) (hd : Bool) := DataW.trod (fun _ => ()) P w base sp hd

/-- What a plain datum was read from. -/
theorem flat_all : ∀ n : Nat,
    (∀ t d c, flat P n t d = some c → ∀ fuel cs p, rdU P w base sp hd fuel t cs = some (d, p) → cs = c) ∧
    (∀ (fs : List (TypeId × Nat)) o ds c, flatF P n fs o ds = some c → ∀ fuel (cs : List Value) xs, fs.mapM (fun f => rdU P w base sp hd fuel f.1 ((cs.drop f.2).take (P.cellsOf f.1))) = some xs → xs.map (·.1) = ds → ∃ r, cs.drop o = c ++ r) ∧
    (∀ e ds c, flatE P n e ds = some c → ∀ fuel (cs : List Value) xs (k m : Nat), (List.range' k m).mapM (fun i => rdU P w base sp hd fuel e ((cs.drop (i * P.cellsOf e)).take (P.cellsOf e))) = some xs → xs.map (·.1) = ds → ∃ r, cs.drop (k * P.cellsOf e) = c ++ r) := by
  intro n
  induction n with
  | zero =>
    refine ⟨?_, ?_, ?_⟩
    · intro t d c h; simp [flat] at h
    · intro t d c o h; simp [flatF] at h
    · intro t d c h; simp [flatE] at h
  | succ n ih =>
    obtain ⟨ih1, ih2, ih3⟩ := ih
    refine ⟨?_, ?_, ?_⟩
    · intro t d c h fuel cs p hr
      cases fuel with
      | zero => simp [rdU, DataW.trod] at hr
      | succ fuel =>
        unfold flat at h
        unfold rdU DataW.trod at hr
        split at h
        · rename_i hu
          cases h
          rw [hu] at hr
          simp only at hr
          split at hr <;> simp_all
        · rename_i hu
          cases h
          rw [hu] at hr
          simp only at hr
          split at hr <;> simp_all
        · rename_i fs ds hu
          rw [hu] at hr
          simp only at hr
          split at h
          · rename_i c' hc
            split at h
            · rename_i hl
              cases h
              have hl := Nat.eq_of_beq_eq_true hl
              by_cases hlen : cs.length = P.cellsOf t
              · rw [if_pos hlen] at hr
                cases hm : fs.toList.mapM (fun f => rdU P w base sp hd fuel f.type ((cs.drop f.offset).take (P.cellsOf f.type))) with
                | none => rw [hm] at hr; cases hr
                | some xs =>
                  rw [hm] at hr
                  simp only [Option.map_some, Option.some.injEq, Prod.mk.injEq, DataW.agg.injEq] at hr
                  refine whole_of (ih2 _ _ _ _ hc fuel cs xs ?_ hr.1) (by omega)
                  rw [List.mapM_map]
                  exact hm
              · rw [if_neg hlen] at hr; cases hr
            · cases h
          · cases h
        · rename_i k e ds hu
          rw [hu] at hr
          simp only at hr
          split at h
          · rename_i c' hc
            split at h
            · rename_i hl
              cases h
              have hl := Nat.eq_of_beq_eq_true hl
              by_cases hlen : cs.length = P.cellsOf t
              · rw [if_pos hlen] at hr
                cases hm : (List.range k).mapM (fun i => rdU P w base sp hd fuel e ((cs.drop (i * P.cellsOf e)).take (P.cellsOf e))) with
                | none => rw [hm] at hr; cases hr
                | some xs =>
                  rw [hm] at hr
                  simp only [Option.map_some, Option.some.injEq, Prod.mk.injEq, DataW.agg.injEq] at hr
                  have := ih3 _ _ _ hc fuel cs xs 0 k (by rw [← List.range_eq_range']; exact hm) hr.1
                  rw [Nat.zero_mul] at this
                  exact whole_of this (by omega)
              · rw [if_neg hlen] at hr; cases hr
            · cases h
          · cases h
        · cases h
    · intro fs o ds c h fuel cs xs hm hx
      cases fs with
      | nil =>
        simp only [flatF] at h
        cases h
        exact ⟨_, rfl⟩
      | cons f fs =>
        obtain ⟨t, o'⟩ := f
        obtain ⟨x, ys, e1, e2, rfl⟩ := mapM_cons_inv hm
        obtain ⟨x1, x2⟩ := x
        subst hx
        simp only [List.map_cons, flatF] at h
        split at h
        · rename_i c1 hc1
          split at h
          · rename_i hb
            simp only [Bool.and_eq_true] at hb
            have ho := Nat.eq_of_beq_eq_true hb.1
            have hl := Nat.eq_of_beq_eq_true hb.2
            subst ho
            split at h
            · rename_i r hr
              cases h
              have p1 := piece (ih1 _ _ _ hc1 _ _ _ e1) hl
              obtain ⟨r', hr'⟩ := ih2 _ _ _ _ hr _ _ _ e2 rfl
              exact ⟨r', by rw [p1, ← hl, hr', List.append_assoc]⟩
            · cases h
          · cases h
        · cases h
    · intro e ds c h fuel cs xs k m hm hx
      cases ds with
      | nil =>
        simp only [flatE] at h
        cases h
        exact ⟨_, rfl⟩
      | cons d ds =>
        cases m with
        | zero => simp at hm; subst hm; simp at hx
        | succ m =>
          rw [List.range'_succ] at hm
          obtain ⟨x, ys, e1, e2, rfl⟩ := mapM_cons_inv hm
          obtain ⟨x1, x2⟩ := x
          simp only [List.map_cons, List.cons.injEq] at hx
          obtain ⟨rfl, hx⟩ := hx
          simp only [flatE] at h
          split at h
          · rename_i c1 hc1
            split at h
            · rename_i hb
              have hl := Nat.eq_of_beq_eq_true hb
              split at h
              · rename_i r hr
                cases h
                have p1 := piece (ih1 _ _ _ hc1 _ _ _ e1) hl
                obtain ⟨r', hr'⟩ := ih3 _ _ _ hr _ _ _ _ _ e2 hx
                refine ⟨r', ?_⟩
                rw [p1, List.append_assoc, ← hr', Nat.add_mul, Nat.one_mul]
              · cases h
            · cases h
          · cases h
end

theorem var_heap {P : Program} {w : World} {n : String} {g : Nat} {cs : Array Value} (hg : P.globalNamed n = some g) (h : w.var? P n = some cs) : ∃ t fz, w.heap[g]? = some (.cells cs t fz) := by
  unfold World.var? at h
  rw [hg] at h
  simp only [Option.bind_some] at h
  split at h
  · rename_i c t fz hh
    cases h
    exact ⟨t, fz, hh⟩
  · cases h

theorem laidVars_cells {P : Program} {w : World} : ∀ (l : List (String × DataW Unit)) (ps : List MemPlace), DataW.LaidVars P w l ps → ∀ x ∈ l, ∀ g t c k, P.globalNamed x.1 = some g → (P.globals[g]?).map (·.type) = some t → flat P k t x.2 = some c → ∃ ty fz, w.heap[g]? = some (.cells ⟨c⟩ ty fz)
  | [], _, _, x, hx, _, _, _, _, _, _, _ => by cases hx
  | (n, d) :: r, ps, h, x, hx, g, t, c, k, e1, e2, e3 => by
    obtain ⟨g', t', cs, fuel, p, q, a1, a2, a3, a4, a5, _⟩ := h
    rcases List.mem_cons.1 hx with rfl | hx
    · simp only at e1 e3
      rw [a1] at e1; cases e1
      rw [a2] at e2; cases e2
      have := (flat_all k).1 _ _ _ e3 _ _ _ a4
      obtain ⟨ty, fz, hh⟩ := var_heap a1 a3
      refine ⟨ty, fz, ?_⟩
      rw [hh, ← this]
    · exact laidVars_cells r q a5 x hx g t c k e1 e2 e3

/-- What a list of plain laid variables says of the heap. -/
def laidFlat (P : Program) (k : Nat) (l : List (String × DataW Unit)) : Option (List (Nat × List Value)) :=
  l.mapM fun x => match P.globalNamed x.1 with
    | some g => match (P.globals[g]?).map (·.type) with
      | some t => match flat P k t x.2 with
        | some c => some (g, c)
        | none => none
      | none => none
    | none => none

theorem laid_cells {P : Program} {w : World} {l : List (String × DataW Unit)} (h : laidMetH P l w) (hn : (l.all fun x => x.2.handleName?.isNone) = true) {k : Nat} {m : List (Nat × List Value)} (hm : laidFlat P k l = some m) :
    ∀ x ∈ m, ∃ ty fz, w.heap[x.1]? = some (.cells ⟨x.2⟩ ty fz) := by
  have h' : laidMet P l w := by
    unfold laidMetH at h
    have : (l.filter fun x => x.2.handleName?.isSome) = [] := by
      rw [List.filter_eq_nil_iff]
      intro x hx
      have := List.all_eq_true.1 hn x hx
      cases hh : x.2.handleName? <;> simp_all
    rw [this] at h
    exact h
  obtain ⟨ps, hl, _⟩ := h'
  have key := laidVars_cells l ps hl
  clear hl h hn
  unfold laidFlat at hm
  induction l generalizing m with
  | nil => have := mapM_nil_inv hm; subst this; intro x hx; cases hx
  | cons y l ih =>
    obtain ⟨z, zs, e1, e2, rfl⟩ := mapM_cons_inv hm
    intro x hx
    rcases List.mem_cons.1 hx with rfl | hx
    · split at e1
      · rename_i g hg
        split at e1
        · rename_i t ht
          split at e1
          · rename_i c hc
            cases e1
            exact key y (by simp) g t c k hg ht hc
          · cases e1
        · cases e1
      · cases e1
    · exact ih e2 (fun a b => key a (by simp [b])) x hx

/-- The fixed heap of some laid cells. -/
def fixB (G : Nat) (m : List (Nat × List Value)) (H0 : Heap) : Bool :=
  Nat.ble G H0.next && (H0.t.toL 1 0).all fun x => Nat.blt x.1 H0.next && (match x.2 with
    | .cells false _ c => c.all (plainV 10) && m.any fun y => Nat.beq y.1 x.1 && sameV.sameL 10 c y.2
    | _ => false)

section
variable {P : Program} {V : View} {G : Nat}

def szAt (w : World) (b : Nat) : Nat := match w.heap[b]? with
  | some (.cells c _ _) => c.size
  | _ => 0
def idRen (w : World) (N : Nat) : Ren := fun b => if b < N then some ⟨b, 0, szAt w b, 0⟩ else none

theorem fixed_rel {ok : FuncId → Nat → Code → Prop} {w : World} {m : List (Nat × List Value)} (hm : ∀ x ∈ m, ∃ ty fz, w.heap[x.1]? = some (.cells ⟨x.2⟩ ty fz)) {H0 : Heap} (h : fixB G m H0 = true) :
    HRel ok (idRen w H0.next) H0 w w.heap.size ∧ GRel G (idRen w H0.next) := by
  unfold fixB at h
  simp only [Bool.and_eq_true] at h
  obtain ⟨hG, hall⟩ := h
  have hG := Nat.le_of_ble_eq_true hG
  have key : ∀ b o, H0.get b = some o → b < H0.next ∧ ∃ g c, o = .cells false g c ∧ (∀ v ∈ c, plainV 10 v = true) ∧ ∃ ty fz, w.heap[b]? = some (.cells ⟨c⟩ ty fz) := by
    intro b o e
    have := List.all_eq_true.1 hall _ (T.mem_of_get e)
    simp only [Bool.and_eq_true] at this
    obtain ⟨h1, h2⟩ := this
    refine ⟨Nat.le_of_ble_eq_true h1, ?_⟩
    split at h2
    · rename_i g c
      simp only [Bool.and_eq_true, List.all_eq_true, List.any_eq_true] at h2
      obtain ⟨h2, y, hy, h3, h4⟩ := h2
      have h3 := Nat.eq_of_beq_eq_true h3
      have h4 := (sameV_sound 10).2 _ _ h4
      obtain ⟨ty, fz, hh⟩ := hm y hy
      exact ⟨g, c, rfl, h2, ty, fz, by rw [← h3, h4]; exact hh⟩
    · cases h2
  refine ⟨⟨?_, fun b o e => (key b o e).1, ?_, ?_, ?_, Nat.le_refl _⟩, fun g hg => ⟨_, if_pos (by omega), rfl, rfl⟩⟩
  · intro b t e
    unfold idRen at e
    split at e
    · assumption
    · cases e
  · intro b o e
    obtain ⟨h1, g, c, rfl, h2, ty, fz, hh⟩ := key b o e
    refine ⟨⟨b, 0, szAt w b, 0⟩, _, if_pos h1, hh, .cells (fun h => by cases h) (by simp [szAt, hh]) (by simp) ?_⟩
    intro i v e
    exact ⟨v, by simpa using e, VRel.plain 10 v (h2 v (List.mem_of_getElem? e))⟩
  · intro b o t e k
    obtain ⟨_, g, c, rfl, _⟩ := key b o e
    cases k
  · intro b o b' o' t t' e k
    obtain ⟨_, g, c, rfl, _⟩ := key b o e
    cases k

/-- A closed statement's call. -/
theorem closed_calls (hV : VOk P V G (PlOf V)) {f : FuncId} {fv : FV} (hfv : V.fn.get f = some fv) {H0 : Heap} {v : Value} (h : Ends V f fv fv.body .leaf H0 v) (hp : plainV 10 v = true)
    {w : World} {m : List (Nat × List Value)} (hm : ∀ x ∈ m, ∃ ty fz, w.heap[x.1]? = some (.cells ⟨x.2⟩ ty fz)) (hf : fixB G m H0 = true) :
    Calls P f #[] w fun e w' => e = .returned v ∧ Below w.heap.size w w' := by
  obtain ⟨H', hc⟩ := h.gives hV hfv
  obtain ⟨hr, hg⟩ := fixed_rel (ok := okC P G (PlOf V)) hm hf
  refine ((hc _ w w.heap.size #[] hr hg (LRel.nil _)).calls hr).mono fun e w' ⟨v', β', e1, e2, _, _, e5⟩ => ?_
  exact ⟨by rw [e1, plain_one 10 v v' hp e2], e5⟩
end
end
end Go.Sp

