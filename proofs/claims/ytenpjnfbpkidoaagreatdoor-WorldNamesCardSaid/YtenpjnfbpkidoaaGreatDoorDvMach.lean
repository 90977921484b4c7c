/- The machine's steps, of a frame with or without a round; one operation. -/
import Derived.Test.YtenpjnfbpkidoaaGreatDoorDvAct2
set_option linter.unusedVariables false
set_option linter.unusedSimpArgs false
namespace Go.Det
variable {P : Program} {ρ : Names}

def on (b : Frame) (tm : Array Value) (df : List Deferred) (todo : List Item) : Frame :=
  { fn := b.fn, tmps := tm, todo, defers := df, mode := .run, kind := b.kind, roundOf := b.roundOf }
def evT (tm : Array Value) : Operand → Value
  | .tmp t => tm.getD t Go.undef
  | .const v => v
  | .global g => .pointer (some ⟨g, 0, none⟩)
  | .func f => .func (.func f) #[] #[]
theorem on_eval (b : Frame) (tm : Array Value) (df : List Deferred) (todo : List Item) : (on b tm df todo).eval = evT tm := by
  funext x; cases x <;> rfl
theorem evT_sound {nt : Nat} {T : Tr AV} {tm : Array Value} (h : TR ρ nt T tm) : ∀ x a, opd T x = some a → VR ρ a (evT tm x) := by
  intro x a hx
  cases x with
  | tmp t =>
    obtain ⟨v', h1, h2⟩ := h.2 t a hx
    simpa [evT, h1] using h2
  | const v => exact ofVal_sound ρ _ _ _ hx
  | global g => injection hx with hx; subst hx; exact .gptr
  | func f => injection hx with hx; subst hx; exact .func .nil .nil

inductive DR (ρ : Names) : ADef → Deferred → Prop where
  | call {f : FuncId} {args : List AV} {a c : List Value} (h : VRs ρ args (a ++ c)) : DR ρ (.call f args) { target := .fn (.func f) ⟨c⟩, args := ⟨a⟩ }
  | collected {r : Nat} {L : Loc} (h : ρ r = some L) : DR ρ (.collected r) { target := .collected L.blk, args := #[] }
inductive DRs (ρ : Names) : List ADef → List Deferred → Prop where
  | nil : DRs ρ [] []
  | cons {d : ADef} {d' : Deferred} {l : List ADef} {l' : List Deferred} (h : DR ρ d d') (t : DRs ρ l l') : DRs ρ (d :: l) (d' :: l')
theorem DR.mono {ρ ρ' : Names} (hl : ρ.le ρ') {d : ADef} {d' : Deferred} (h : DR ρ d d') : DR ρ' d d' := by
  cases h with
  | call h => exact .call (h.mono hl)
  | collected h => exact .collected (hl _ _ h)
theorem DRs.mono {ρ ρ' : Names} (hl : ρ.le ρ') : ∀ {d : List ADef} {d' : List Deferred}, DRs ρ d d' → DRs ρ' d d'
  | _, _, .nil => .nil
  | _, _, .cons h t => .cons (h.mono hl) (t.mono hl)

section steps
variable {b : Frame} {tm : Array Value} {df : List Deferred} {k : List Item} {cs : List Frame} {w : World}
theorem st_skip : step P (lone (on b tm df (.code .skip :: k)) cs w) = .next (lone (on b tm df k) cs w) := step_lone_go (by simp [stepG, stepG.exec, on])
theorem st_label {l : Nat} : step P (lone (on b tm df (.code (.label l) :: k)) cs w) = .next (lone (on b tm df k) cs w) := step_lone_go (by simp [stepG, stepG.exec, on])
theorem st_inBlock {id : Nat} : step P (lone (on b tm df (.inBlock id :: k)) cs w) = .next (lone (on b tm df k) cs w) := step_lone_go (by simp [stepG, stepG.exec, on])
theorem st_seq {x y : Code} : step P (lone (on b tm df (.code (.seq x y) :: k)) cs w) = .next (lone (on b tm df (.code x :: .code y :: k)) cs w) := step_lone_go (by simp [stepG, stepG.exec, on])
theorem st_cond {c : Operand} {x y : Code} {t : Bool} (h : evT tm c = .bool t) : step P (lone (on b tm df (.code (.cond c x y) :: k)) cs w) = .next (lone (on b tm df (.code (if t then x else y) :: k)) cs w) :=
  step_lone_go (by
    have := congrFun (on_eval b tm df (.code (.cond c x y) :: k)) c
    simp only [on] at this
    simp [stepG, stepG.exec, on, this, h])
theorem st_block {id : Nat} {c : Code} : step P (lone (on b tm df (.code (.block id c) :: k)) cs w) = .next (lone (on b tm df (.code c :: .inBlock id :: k)) cs w) := step_lone_go (by simp [stepG, stepG.exec, on])
theorem st_loop {c : Code} : step P (lone (on b tm df (.code (.loop c) :: k)) cs w) = .next (lone (on b tm df (.code c :: .inLoop c :: k)) cs w) := step_lone_go (by simp [stepG, stepG.exec, on])
theorem st_inLoop {c : Code} : step P (lone (on b tm df (.inLoop c :: k)) cs w) = .next (lone (on b tm df (.code c :: .inLoop c :: k)) cs w) := step_lone_go (by simp [stepG, stepG.exec, on])
theorem st_exit {id : Nat} {k' : List Item} (h : exitTo id k = some k') : step P (lone (on b tm df (.code (.exit id) :: k)) cs w) = .next (lone (on b tm df k') cs w) := step_lone_go (by simp [stepG, stepG.exec, on, h])
theorem st_region {id : Nat} {ops : Array Oper} : step P (lone (on b tm df (.code (.region id ops false) :: k)) cs w) = .next (lone (on b tm df (.inRegion ops (List.range ops.size) :: k)) cs w) := step_lone_go (by simp [stepG, stepG.exec, on])
theorem st_draw {id : Nat} {ops : Array Oper} : step P (lone (on b tm df (.code (.region id ops true) :: k)) cs w) =
    .next (lone (on b tm df (.inRegion ops (Region.schedule (P.follows .mixedOrders) ops (w.tape w.drawn (.order b.fn id))) :: k)) cs { w with drawn := w.drawn + 1 }) :=
  step_lone_go (by simp [stepG, stepG.exec, on, choose, Sem.run, Question.forced, Question.cut])
theorem st_regionEnd {ops : Array Oper} : step P (lone (on b tm df (.inRegion ops [] :: k)) cs w) = .next (lone (on b tm df k) cs w) := step_lone_go (by simp [stepG, stepG.exec, on])
end steps

def putC (tm : Array Value) (dst : Option Tmp) (v : Value) : Array Value :=
  match dst with
  | some d => tm.setIfInBounds d v
  | none => tm
theorem finish_on (b : Frame) (tm : Array Value) (df : List Deferred) (ops : Array Oper) (i : Nat) (rest : List Nat) (k : List Item) (v : Value) :
    (on b tm df (.inRegion ops (i :: rest) :: k)).finish v = on b (putC tm ((ops[i]?).bind (·.dst)) v) df (.inRegion ops rest :: k) := by
  cases h : (ops[i]?).bind (·.dst) <;> simp [Frame.finish, on, putC, h]

theorem st_unwanted {b : Frame} {tm : Array Value} {df : List Deferred} {k : List Item} {cs : List Frame} {w : World} {ops : Array Oper} {i : Nat} {rest : List Nat} {o : Oper}
    (ho : ops[i]? = some o) (hw : Region.wanted o (yielded ops tm) = false) :
    step P (lone (on b tm df (.inRegion ops (i :: rest) :: k)) cs w) = .next (lone (on b (putC tm o.dst Go.undef) df (.inRegion ops rest :: k)) cs w) := by
  have e := finish_on b tm df ops i rest k Go.undef
  rw [ho] at e
  simp only [Option.bind_some] at e
  rw [← e]
  exact step_lone_go (by simp [stepG, stepG.exec, on, ho, hw])
theorem stepG_on {b : Frame} {tm : Array Value} {df : List Deferred} {k : List Item} {cs : List Frame} {w : World} {ops : Array Oper} {i : Nat} {rest : List Nat} {o : Oper}
    (ho : ops[i]? = some o) (hw : Region.wanted o (yielded ops tm) = true) (hd : b.roundOf = none ∨ ∀ c, o.op ≠ .defer c) :
    stepG P true { frame := on b tm df (.inRegion ops (i :: rest) :: k), callers := cs, status := .running, dying := none } w =
      stepG.apply P true (on b tm df (.inRegion ops (i :: rest) :: k)) cs none (execOp (evT tm) o) w := by
  have he := on_eval b tm df (.inRegion ops (i :: rest) :: k)
  simp only [on] at he
  rcases hd with hd | hd
  · rw [hd] at he; simp [stepG, stepG.exec, stepG.oper, Frame.oper?, on, ho, hw, he, hd]
  · cases hr : b.roundOf with
    | none => rw [hr] at he; simp [stepG, stepG.exec, stepG.oper, Frame.oper?, on, ho, hw, he, hr]
    | some l =>
      have : ∀ (x : GStep) (y : Call → GStep), (match o.op with | .defer c => y c | _ => x) = x := by
        intro x y
        cases hop : o.op <;> first | rfl | exact absurd hop (hd _)
      simp only [stepG, stepG.exec, stepG.oper, Frame.oper?, on, ho, hw, he, hr, Option.map_some, Option.getD_some, if_true]
      cases hop : o.op <;> first | rfl | exact absurd hop (hd _)

section apply
variable {fr : Frame} {cs : List Frame} {w w' : World} {s : Sem Next}
theorem ap_value {v : Value} (h : s.run P w = .ok (.value v) w') : (stepG.apply P true fr cs none s w).bare = .go { frame := fr.finish v, callers := cs, status := .running, dying := none } w' := by
  simp [stepG.apply, h]
theorem ap_skip (h : s.run P w = .ok .skip w') : (stepG.apply P true fr cs none s w).bare = .go { frame := fr.finish Go.undef, callers := cs, status := .running, dying := none } w' := by
  simp [stepG.apply, h]
theorem ap_defer {d : Deferred} (h : s.run P w = .ok (.defer d) w') : (stepG.apply P true fr cs none s w).bare = .go { frame := ({ fr with defers := d :: fr.defers } : Frame).finish Go.undef, callers := cs, status := .running, dying := none } w' := by
  simp only [stepG.apply, Sem.runT_eq, h, GStep.bare_after]; rfl
theorem ap_enter {f : FuncId} {args : Array Value} (h : s.run P w = .ok (.enter f args) w') (hk : ∀ d r sv rest, fr.todo ≠ .call d true r sv :: rest) :
    (stepG.apply P true fr cs none s w).bare = .go { frame := Frame.enter P f args .normal, callers := fr :: cs, status := .running, dying := none } w' := by
  have : (match fr.todo with | .call _ true _ _ :: _ => CallKind.wrapped | _ => .normal) = .normal := by
    split
    · rename_i d r sv rest e; exact absurd e (hk _ _ _ _)
    · rfl
  simp only [stepG.apply, Sem.runT_eq, h, GStep.bare_after, this]; rfl
theorem ap_round {l : Nat} {f : FuncId} {tmps : Array Value} {as body : Code} (h : s.run P w = .ok (.round l f tmps as body) w') :
    (stepG.apply P true fr cs none s w).bare = .go { frame := Frame.round l f tmps as body .normal, callers := fr :: cs, status := .running, dying := none } w' := by
  simp only [stepG.apply, Sem.runT_eq, h, GStep.bare_after]; rfl
end apply


/-! What the recursive runs answer. -/
inductive RoR (ρ : Names) : Option Nat → Option Nat → Prop where
  | none : RoR ρ none none
  | some {l : Nat} {L : Loc} (h : ρ l = some L) : RoR ρ (some l) (some L.blk)
theorem RoR.mono {ρ ρ' : Names} (hl : ρ.le ρ') {a b : Option Nat} (h : RoR ρ a b) : RoR ρ' a b := by
  cases h with
  | none => exact .none
  | some h => exact .some (hl _ _ h)

def Arr (P : Program) (m : Machine) (b : Frame) (k : List Item) (cs : List Frame) : Ex → Array Value → List Deferred → World → Prop
  | .normal, tm, df, w => Steps P m (lone (on b tm df k) cs w)
  | .exit id, tm, df, w => ∃ k2, exitTo id k2 = exitTo id k ∧ Steps P m (lone (on b tm df (.code (.exit id) :: k2)) cs w)
  | .ret, tm, df, w => ∃ k2, Steps P m (lone (on b tm df (.code .ret :: k2)) cs w)
theorem Arr.of_steps {m m1 : Machine} {b : Frame} {k : List Item} {cs : List Frame} {e : Ex} {tm : Array Value} {df : List Deferred} {w : World} (h : Steps P m m1) (h' : Arr P m1 b k cs e tm df w) : Arr P m b k cs e tm df w := by
  cases e with
  | normal => exact Steps.trans h h'
  | exit id => obtain ⟨k2, a, c⟩ := h'; exact ⟨k2, a, h.trans c⟩
  | ret => obtain ⟨k2, c⟩ := h'; exact ⟨k2, h.trans c⟩

def Ran (P : Program) (nt : Nat) (ρ : Names) (st : St) (w : World) (o : Out) (m : Machine) (b : Frame) (k : List Item) (cs : List Frame) : Prop :=
  ∃ ρ' w' tm' df', Goes ρ st w ρ' o.st w' ∧ HR ρ' o.st w' ∧ TR ρ' nt o.tmps tm' ∧ DRs ρ' o.defers df' ∧ Arr P m b k cs o.ex tm' df' w'

def CodeOk (P : Program) (r : Rec) : Prop :=
  ∀ ro fn nt c T D st o, r.code ro fn nt c T D st = some o → ∀ ρ w tm df b k cs, HR ρ st w → TR ρ nt T tm → DRs ρ D df → b.fn = fn → RoR ρ ro b.roundOf →
    Ran P nt ρ st w o (lone (on b tm df (.code c :: k)) cs w) b k cs

/-- A frame that is about to hand its results back. -/
def Leaves (P : Program) (f : FuncId) (kind : CallKind) (fr : Frame) (v : Value) (w : World) : Prop :=
  fr.fn = f ∧ fr.kind = kind ∧ fr.mode = .returning ∧ fr.defers = [] ∧ ∃ fn, P.funcs[f]? = some fn ∧ (results fn fr.tmps).run P w = .ok v w

/-- What a call does, said of the model. -/
def CallK (P : Program) (kind : CallKind) (f : FuncId) (args : List AV) (st : St) (v : AV) (st' : St) : Prop :=
  (∀ (X : Array Value) (w : World), (callFunc f X).run P w = .ok (.enter f X) w) ∧
    ∀ ρ w args' cs, HR ρ st w → VRs ρ args args' → ∃ ρ' w' v' fr', Goes ρ st w ρ' st' w' ∧ HR ρ' st' w' ∧ VR ρ' v v' ∧
      Steps P (lone (Frame.enter P f ⟨args'⟩ kind) cs w) (lone fr' cs w') ∧ Leaves P f kind fr' v' w'
abbrev CallS (P : Program) := CallK P .normal
def CallOk (P : Program) (call : FuncId → List AV → St → Option (AV × St)) : Prop := ∀ f args st v st', call f args st = some (v, st') → CallS P f args st v st'
def CallOkD (P : Program) (call : FuncId → List AV → St → Option (AV × St)) : Prop := ∀ f args st v st', call f args st = some (v, st') → ∀ kind, CallK P kind f args st v st'

theorem st_leave {f : FuncId} {fr c : Frame} {cs : List Frame} {w : World} {v : Value} (h : Leaves P f .normal fr v w) : step P (lone fr (c :: cs) w) = .next (lone (c.finish v) cs w) := by
  obtain ⟨hf, hk, hm, hd, fn, hfn, hr⟩ := h
  subst hf
  exact step_lone_go (by simp [stepG, unwind, doReturn, hm, hd, hk, hfn, hr])
theorem st_leave_deferred {f : FuncId} {fr c : Frame} {cs : List Frame} {w : World} {v : Value} (h : Leaves P f .deferred fr v w) (hc : c.mode = .returning) : step P (lone fr (c :: cs) w) = .next (lone c cs w) := by
  obtain ⟨hf, hk, hm, hd, fn, hfn, hr⟩ := h
  subst hf
  exact step_lone_go (by simp [stepG, unwind, doReturn, hm, hd, hk, hfn, hr, hc])

theorem putDst_sound {nt : Nat} {T T' : Tr AV} {tm : Array Value} {dst : Option Tmp} {v : AV} {v' : Value} (h : putDst nt T dst v = some T') (hT : TR ρ nt T tm) (hv : VR ρ v v') : TR ρ nt T' (putC tm dst v') := by
  cases dst with
  | none => injection h with h; subst h; exact hT
  | some d =>
    change ifb (Nat.ble (Nat.succ d) nt) (some (T.set d v)) none = some T' at h
    rw [ifb_none] at h
    obtain ⟨h1, h2⟩ := h
    injection h2 with h2; subst h2
    have hd : d < tm.size := Nat.lt_of_lt_of_le (of_ble h1) hT.1
    refine ⟨by simpa [putC] using hT.1, fun t u hu => ?_⟩
    rw [Tr.get_set] at hu
    by_cases e : t = d
    · subst e
      rw [if_pos rfl] at hu; injection hu with hu; subst hu
      exact ⟨v', by simp [putC, hd], hv⟩
    · rw [if_neg e] at hu
      obtain ⟨u', h3, h4⟩ := hT.2 _ _ hu
      refine ⟨u', ?_, h4⟩
      simp only [putC, Array.getElem?_setIfInBounds]
      rw [if_neg (fun he => e he.symm)]; exact h3

theorem yieldedA_sound {nt : Nat} {T : Tr AV} {tm : Array Value} (hT : TR ρ nt T tm) {ops : Array Oper} {j : Nat} {p : Oper} (hp : ops[j]? = some p) {y : Option Bool} (h : yieldedA T p = some y) : yielded ops tm j = y := by
  unfold yieldedA at h
  simp only [ob_some] at h
  obtain ⟨d, h1, v, h2, h3⟩ := h
  obtain ⟨v', k1, k2⟩ := hT.2 _ _ h2
  split at h3
  · injection h3 with h3; subst h3
    cases k2
    simp [yielded, hp, h1, k1]
  · injection h3 with h3; subst h3
    cases k2
    simp [yielded, hp, h1, k1]
  · cases h3
theorem wantedA_sound {nt : Nat} {T : Tr AV} {tm : Array Value} (hT : TR ρ nt T tm) {ops : Array Oper} {o : Oper} {b : Bool} (h : wantedA T ops.toList o = some b) : Region.wanted o (yielded ops tm) = b := by
  unfold wantedA at h
  unfold Region.wanted
  cases hg : o.guard with
  | none => rw [hg] at h; injection h
  | some g =>
    rw [hg] at h
    change (ob (nth g.1 ops.toList) fun p => om (isWant g.2) (yieldedA T p)) = some b at h
    simp only [ob_some, om_some, nth_eq, Array.getElem?_toList] at h
    obtain ⟨p, h1, c, h2, rfl⟩ := h
    obtain ⟨j, want⟩ := g
    simp only
    rw [yieldedA_sound hT h1 h2]
    cases c with
    | none => rfl
    | some c =>
      show _ = eqBool c want
      rw [eqBool_eq]
      cases c <;> cases want <;> rfl

end Go.Det
