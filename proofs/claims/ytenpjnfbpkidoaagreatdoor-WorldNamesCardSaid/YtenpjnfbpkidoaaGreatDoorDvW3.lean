/- What is reckoned ahead of a piece of code holds: regions, code, calls. -/
import Derived.Test.YtenpjnfbpkidoaaGreatDoorDvW2
set_option linter.unusedVariables false
set_option linter.unusedSimpArgs false
namespace Go.Det
variable {P : Program}

structure RecOkW (P : Program) (r : RecW) : Prop where
  code : ∀ ro fn nt c T D st Q, r.code ro fn nt c T D st Q → ∃ o, CodeS P ro fn nt c T D st o ∧ Q o
  call : ∀ f args st Q, r.call f args st Q → ∃ v st', CallS P f args st v st' ∧ Q v st'

theorem splitW_sound {v : AV} {k : AV → Prop} (h : splitW v k) : k v := by
  cases v
  case bool b => cases b <;> exact h
  all_goals exact h

theorem splitF_sound {ns : Bool} {v : AV} {k : AV → Prop} (h : splitF ns v k) : k v := by
  cases ns with
  | true => exact h
  | false => exact splitW_sound h
theorem flAt_ok {K : Known} {r : RecW} {fn : FuncId} {id : Nat} (h : RecOkW P r) : RecOkW P (flAt K r fn id) := ⟨h.code, h.call⟩
/-! A run that knows one call. -/
open Classical in
noncomputable def rec1 (f : FuncId) (args : List AV) (st : St) (p : AV × St) : Rec :=
  ⟨fun _ _ _ _ _ _ _ => none, fun f' args' st' => if f' = f ∧ args' = args ∧ st' = st then some p else none, fun _ _ _ => none⟩
theorem rec1_at (f : FuncId) (args : List AV) (st : St) (p : AV × St) : (rec1 f args st p).call f args st = some p := by simp [rec1]
open Classical in
theorem rec1_ok {f : FuncId} {args : List AV} {st : St} {p : AV × St} (h : CallS P f args st p.1 p.2) : CodeOk P (rec1 f args st p) ∧ CallOk P (rec1 f args st p).call := by
  constructor
  · intro ro fn nt c T D st o h
    change none = some _ at h
    cases h
  · intro f' a' s' v1 s1 h1
    change (if f' = f ∧ a' = args ∧ s' = st then some p else none) = some (v1, s1) at h1
    by_cases c : f' = f ∧ a' = args ∧ s' = st
    · rw [if_pos c] at h1
      obtain ⟨rfl, rfl, rfl⟩ := c
      injection h1 with h1; subst h1
      exact h
    · rw [if_neg c] at h1; cases h1
theorem fail_ok : CodeOk P recFail ∧ CallOk P recFail.call := by
  constructor
  · intro ro fn nt c T D st o h
    change none = some _ at h
    cases h
  · intro f' a' s' v1 s1 h1
    change none = some _ at h1
    cases h1

theorem putW_sound {nt : Nat} {T : Tr AV} {dst : Option Tmp} {v : AV} {k : Tr AV → Prop} (h : putW nt T dst v k) : ∃ T', putDst nt T dst v = some T' ∧ k T' := by
  cases dst with
  | none => exact ⟨T, rfl, h⟩
  | some d =>
    change ifp (Nat.ble (Nat.succ d) nt) (k (T.set d v)) False at h
    rw [ifp_F] at h
    exact ⟨_, by show ifb _ _ _ = _; rw [h.1]; rfl, h.2⟩

/-! A run that knows two pieces of code. -/
structure Ask where
  ro : Option Nat
  fn : FuncId
  nt : Nat
  c : Code
  T : Tr AV
  D : List ADef
  st : St
def Ask.S (P : Program) (a : Ask) (o : Out) : Prop := CodeS P a.ro a.fn a.nt a.c a.T a.D a.st o
open Classical in
noncomputable def rec2 (a b : Ask) (oa ob : Out) : Rec :=
  ⟨fun ro fn nt c T D st => if Ask.mk ro fn nt c T D st = a then some oa else if Ask.mk ro fn nt c T D st = b then some ob else none, fun _ _ _ => none, fun _ _ _ => none⟩
open Classical in
theorem rec2_ok {a b : Ask} {oa ob : Out} (ha : a.S P oa) (hb : b.S P ob) : CodeOk P (rec2 a b oa ob) ∧ CallOk P (rec2 a b oa ob).call := by
  constructor
  · intro ro fn nt c T D st o h
    change (if Ask.mk ro fn nt c T D st = a then some oa else if Ask.mk ro fn nt c T D st = b then some ob else none) = some o at h
    by_cases q : Ask.mk ro fn nt c T D st = a
    · rw [if_pos q] at h
      injection h with h; subst h; subst q
      exact ha
    · rw [if_neg q] at h
      by_cases q2 : Ask.mk ro fn nt c T D st = b
      · rw [if_pos q2] at h
        injection h with h; subst h; subst q2
        exact hb
      · rw [if_neg q2] at h; cases h
  · intro f' a' s' v1 s1 h1
    change none = some _ at h1
    cases h1
theorem setAllW_sound {nt : Nat} {k : Tr AV → Prop} : ∀ {ps : List Tmp} {vs : List AV} {T : Tr AV}, setAllW nt k T ps vs → ∃ T', setAll nt T ps vs = some T' ∧ k T'
  | [], [], T, h => ⟨T, rfl, h⟩
  | p :: ps, v :: vs, T, h => by
    simp only [setAllW, ifp_F] at h
    obtain ⟨T', h1, h2⟩ := setAllW_sound h.2
    exact ⟨T', by simp only [setAll, h.1, ifb_true, h1], h2⟩
  | [], _ :: _, T, h => h.elim
  | _ :: _, [], T, h => h.elim
open Classical in
theorem yieldW_sound {r : RecW} (hr : RecOkW P r) {l : Nat} {args : List AV} {st : St} {k : Bool → St → Prop} (h : yieldW r l args st k) :
    ∃ r0 : Rec, CodeOk P r0 ∧ CallOk P r0.call ∧ ∃ b st', yieldA r0 l args st = some (.bool b, st') ∧ k b st' := by
  unfold yieldW at h
  rw [obW_iff] at h
  obtain ⟨p, hp, h⟩ := h
  have hps : p.state = .ready := by
    cases hs : p.state with
    | ready => rfl
    | busy => rw [hs] at h; exact h.elim
    | done => rw [hs] at h; exact h.elim
    | exhausted => rw [hs] at h; exact h.elim
  rw [hps] at h
  obtain ⟨T, hT, h⟩ := setAllW_sound h
  obtain ⟨⟨e1, T1, D1, st1⟩, h1, h⟩ := hr.code _ _ _ _ _ _ _ _ h
  cases e1 with
  | exit i => exact False.elim h
  | ret => exact False.elim h
  | normal =>
  obtain ⟨q, hq, h⟩ := obW_iff.1 (show obW (loopOf st1 l) _ from h)
  cases hs : q.state with
  | ready =>
    rw [hs] at h
    obtain ⟨⟨e2, T2, D2, st2⟩, h2, h⟩ := hr.code _ _ _ _ _ _ _ _ h
    have h' : ifp (isNil D2) (obW (loopOf st2 l) fun q2 => Ex.rec (motive := fun _ => Prop)
            (k true (st2.put l (.loop { q2 with state := .ready, pending := none })))
            (fun id => k false (st2.put l (.loop { q2 with state := .done, pending := some (.exit id) })))
            (k false (st2.put l (.loop { q2 with state := .done, pending := some .ret }))) e2) False := h
    rw [ifp_F, obW_iff] at h'
    obtain ⟨hn, q2, hq2, h'⟩ := h'
    let a : Ask := ⟨some l, p.fn, p.nt, p.assign, T, [], st⟩
    let b : Ask := ⟨some l, p.fn, p.nt, p.body, T1, D1, st1.put l (.loop { q with state := .busy })⟩
    obtain ⟨oa, ob', hoa, hob, e1, e2'⟩ : ∃ oa ob', a.S P oa ∧ b.S P ob' ∧ (rec2 a b oa ob').code (some l) p.fn p.nt p.assign T [] st = some ⟨.normal, T1, D1, st1⟩ ∧
        (rec2 a b oa ob').code (some l) p.fn p.nt p.body T1 D1 (st1.put l (.loop { q with state := .busy })) = some ⟨e2, T2, D2, st2⟩ := by
      by_cases hab : b = a
      · exfalso
        have e' : st1.put l (.loop { q with state := .busy }) = st := congrArg Ask.st hab
        have hget : loopOf st l = some { q with state := .busy } := by
          rw [← e']
          unfold loopOf
          rw [show (st1.put l (.loop { q with state := .busy })).heap.get l = some (.loop { q with state := .busy }) by show (st1.heap.set l _).get l = _; rw [Tr.get_set, if_pos rfl]]
          rfl
        rw [hp] at hget
        injection hget with hget
        rw [hget] at hps
        cases hps
      · exact ⟨_, _, h1, h2, by show (if _ then _ else _) = _; rw [if_pos rfl], by show (if _ then _ else _) = _; rw [if_neg (fun e => hab e), if_pos rfl]⟩
    refine ⟨rec2 a b oa ob', (rec2_ok hoa hob).1, (rec2_ok hoa hob).2, ?_⟩
    cases e2 with
    | normal => exact ⟨true, _, by simp only [yieldA, ob_eq, hp, hT, Option.bind_some, e1, hq, hs, e2', hn, ifb_true, om_eq, hq2, Option.map_some], h'⟩
    | exit i => exact ⟨false, _, by simp only [yieldA, ob_eq, hp, hT, Option.bind_some, e1, hq, hs, e2', hn, ifb_true, om_eq, hq2, Option.map_some], h'⟩
    | ret => exact ⟨false, _, by simp only [yieldA, ob_eq, hp, hT, Option.bind_some, e1, hq, hs, e2', hn, ifb_true, om_eq, hq2, Option.map_some], h'⟩
  | busy => rw [hs] at h; exact False.elim h
  | done => rw [hs] at h; exact False.elim h
  | exhausted => rw [hs] at h; exact False.elim h

/-! One operation, and a list of them. -/
theorem oneW_sound {r : RecW} (hr : RecOkW P r) {cd : Bool} {nt : Nat} {T : Tr AV} {D : List ADef} {st : St} {o : Oper} {k : Tr AV → List ADef → St → Prop} (h : oneW P r cd nt T D st o k) :
    ∃ r0 : Rec, CodeOk P r0 ∧ CallOk P r0.call ∧ ∃ m, one P r0 cd nt T D st o = some m ∧ k m.tmps m.defers m.st := by
  obtain ⟨x, hx, hk⟩ := aopW_sound h
  cases x with
  | val v st' =>
    obtain ⟨T', h1, h2⟩ := putW_sound (splitF_sound (show splitF r.fl.ns v (fun v => putW nt T o.dst v (fun T => k T D st')) from hk))
    refine ⟨recFail, fail_ok.1, fail_ok.2, ⟨T', D, st'⟩, ?_, h2⟩
    unfold one
    rw [aopB_of hx]
    show om _ (putDst nt T o.dst v) = _
    rw [h1]; rfl
  | call f args =>
    obtain ⟨v, st', h0, hk⟩ := hr.call _ _ _ _ (show r.call f args st (fun v st' => splitF r.fl.ns v fun v => putW nt T o.dst v fun T => k T D st') from hk)
    obtain ⟨T', h1, h2⟩ := putW_sound (splitF_sound hk)
    refine ⟨rec1 f args st (v, st'), (rec1_ok h0).1, (rec1_ok h0).2, ⟨T', D, st'⟩, ?_, h2⟩
    unfold one
    rw [aopB_of hx]
    show ob ((rec1 f args st (v, st')).call f args st) _ = _
    rw [rec1_at]
    show om _ (putDst nt T o.dst v) = _
    rw [h1]; rfl
  | yld l args =>
    obtain ⟨r0, hc0, hk0, b, st', h0, h3⟩ := yieldW_sound hr (show yieldW r l args st (fun b st' => putW nt T o.dst (.bool b) fun T => k T D st') from hk)
    obtain ⟨T', h1, h2⟩ := putW_sound h3
    refine ⟨r0, hc0, hk0, ⟨T', D, st'⟩, ?_, h2⟩
    unfold one
    rw [aopB_of hx]
    show ob (yieldA r0 l args st) _ = _
    rw [h0]
    show om _ (putDst nt T o.dst (.bool b)) = _
    rw [h1]; rfl
  | dfr f args => exact False.elim hk

theorem opsW_sound {r : RecW} (hr : RecOkW P r) {cd : Bool} {nt : Nat} {ops : Array Oper} {kk : Tr AV → List ADef → St → Prop} : ∀ (l : List Oper) (n : Nat) (T : Tr AV) (D : List ADef) (st : St),
    opsW P r cd nt ops.toList kk l T D st → (∀ j, j < l.length → ops[n + j]? = l[j]?) →
    ∃ T' D' st', kk T' D' st' ∧ ∀ (b : Frame) (hb : cd = true → b.roundOf = none) (k : List Item) (cs : List Frame) (idx : List Nat), idx = (List.range l.length).map (n + ·) → ∀ (ρ : Names) (w : World) (tm : Array Value) (df : List Deferred), HR ρ st w → TR ρ nt T tm → DRs ρ D df →
      ∃ ρ' w' tm' df', Goes ρ st w ρ' st' w' ∧ HR ρ' st' w' ∧ TR ρ' nt T' tm' ∧ DRs ρ' D' df' ∧ Steps P (lone (on b tm df (.inRegion ops idx :: k)) cs w) (lone (on b tm' df' k) cs w') := by
  intro l
  induction l with
  | nil =>
    intro n T D st h _
    refine ⟨T, D, st, h, fun b hb k cs idx hidx ρ w tm df hH hT hD => ?_⟩
    simp at hidx; subst hidx
    exact ⟨ρ, w, tm, df, Goes.refl, hH, hT, hD, .one st_regionEnd⟩
  | cons o l ih =>
    intro n T D st h hl
    have ho : ops[n]? = some o := by have := hl 0 (by simp); simpa using this
    have hl' : ∀ j, j < l.length → ops[n + 1 + j]? = l[j]? := fun j hj => by
      have := hl (j + 1) (by simp; omega)
      rw [show n + 1 + j = n + (j + 1) by omega, this]; simp
    have hidx' : ∀ idx : List Nat, idx = (List.range (o :: l).length).map (n + ·) → idx = n :: (List.range l.length).map ((n + 1) + ·) := by
      intro idx hidx
      rw [hidx, List.length_cons, List.range_succ_eq_map, List.map_cons, List.map_map]
      simp only [Nat.add_zero]
      congr 1
      apply List.map_congr_left
      intro j _
      simp [Function.comp]; omega
    change obW (wantedA T ops.toList o) (fun b => ifp b (oneW P r cd nt T D st o fun T D st => opsW P r cd nt ops.toList kk l T D st) (putW nt T o.dst undefA fun T => opsW P r cd nt ops.toList kk l T D st)) at h
    rw [obW_iff] at h
    obtain ⟨bw, h1, h2⟩ := h
    rcases ifp_iff.1 h2 with ⟨hbw, h5⟩ | ⟨hbw, h5⟩ <;> subst hbw
    · obtain ⟨r0, hc0, hk0, m, h3, h4⟩ := oneW_sound hr h5
      obtain ⟨T', D', st', hkk, sem⟩ := ih (n + 1) _ _ _ h4 hl'
      refine ⟨T', D', st', hkk, fun b hb k cs idx hidx ρ w tm df hH hT hD => ?_⟩
      rw [hidx' idx hidx]
      obtain ⟨ρ1, w1, tm1, df1, g1, H1, T1, D1, s1⟩ := one_sound hc0 hk0 h3 hH hT hD hb ho (wantedA_sound hT h1) ((List.range l.length).map ((n + 1) + ·)) k cs
      obtain ⟨ρ', w', tm', df', g, H, hT', hD', hs⟩ := sem b hb k cs _ rfl ρ1 w1 tm1 df1 H1 T1 D1
      exact ⟨ρ', w', tm', df', g1.trans g, H, hT', hD', s1.trans hs⟩
    · obtain ⟨T1, h3, h4⟩ := putW_sound h5
      obtain ⟨T', D', st', hkk, sem⟩ := ih (n + 1) _ _ _ h4 hl'
      refine ⟨T', D', st', hkk, fun b hb k cs idx hidx ρ w tm df hH hT hD => ?_⟩
      rw [hidx' idx hidx]
      obtain ⟨ρ', w', tm', df', g, H, hT', hD', hs⟩ := sem b hb k cs _ rfl ρ w (putC tm o.dst Go.undef) df hH (putDst_sound h3 hT (.tuple .nil)) hD
      exact ⟨ρ', w', tm', df', g, H, hT', hD', .head (st_unwanted ho (wantedA_sound hT h1)) hs⟩

/-! Regions whose order is drawn. -/
theorem drawGo_congr {R R' : Nat → Rec} {nt base : Nat} {ops : List Oper} {bef : List Nat} : ∀ (l : List Oper) (i : Nat) (T : Tr AV) (st : St) (pend : List (Nat × Ob)) (tr : List DEnt),
    (∀ j, i ≤ j → R j = R' j) → drawGo P R nt base ops bef i l T st pend tr = drawGo P R' nt base ops bef i l T st pend tr
  | [], i, T, st, pend, tr, _ => rfl
  | o :: l, i, T, st, pend, tr, h => by
    simp only [drawGo]
    rw [h i (Nat.le_refl _)]
    congr 1; funext m; congr 1; funext wt; congr 1; funext d; congr 1; funext T'
    exact drawGo_congr l _ _ _ _ _ fun j hj => h j (Nat.le_of_succ_le hj)

theorem drawOpW_sound {r : RecW} (hr : RecOkW P r) {base i m : Nat} {T : Tr AV} {st : St} {pend : List (Nat × Ob)} {o : Oper} {k : DRes → Prop} (h : drawOpW P r base i m T st pend o k) :
    ∃ r0 : Rec, CodeOk P r0 ∧ CallOk P r0.call ∧ ∃ d, drawOp P r0 base i m T st pend o = some d ∧ k d := by
  have still : aopW r.fl P T st o.op (fun v _ => splitF r.fl.ns v fun v => k ⟨v, st, none, pend⟩) (fun _ _ => False) (fun _ _ => False) (fun _ _ => False) → ∃ v s1, aop P T st o.op = some (.val v s1) ∧ k ⟨v, st, none, pend⟩ := by
    intro h
    obtain ⟨x, hx, hk⟩ := aopW_sound h
    cases x with
    | val v s1 => exact ⟨v, s1, hx, splitF_sound hk⟩
    | call f as => exact False.elim hk
    | yld l as => exact False.elim hk
    | dfr f as => exact False.elim hk
  unfold drawOpW at h
  cases hkd : kd o.op with
  | pure =>
    rw [hkd] at h
    obtain ⟨v, s1, hx, hk⟩ := still h
    exact ⟨recFail, fail_ok.1, fail_ok.2, _, by unfold drawOp; rw [hkd]; simp only [ob_eq, hx, Option.bind_some], hk⟩
  | read =>
    rw [hkd] at h
    obtain ⟨v, s1, hx, hk⟩ := still h
    exact ⟨recFail, fail_ok.1, fail_ok.2, _, by unfold drawOp; rw [hkd]; simp only [ob_eq, hx, Option.bind_some], hk⟩
  | fresh =>
    rw [hkd] at h
    obtain ⟨v, ob, hq, hk⟩ := freshW_sound (show freshW P st.vm T (Nat.add base i) o.op (fun v ob => k ⟨v, st, some ob, (Nat.add base i, ob) :: pend⟩) from h)
    exact ⟨recFail, fail_ok.1, fail_ok.2, _, by unfold drawOp; rw [hkd]; simp only [om_eq, hq, Option.map_some], hk⟩
  | act =>
    rw [hkd] at h
    obtain ⟨x, hx, hk⟩ := aopW_sound h
    cases x with
    | val v s1 => exact ⟨recFail, fail_ok.1, fail_ok.2, ⟨v, s1, none, (part2 base m pend).no⟩, by unfold drawOp; rw [hkd]; simp only [ob_eq, hx, Option.bind_some], splitF_sound hk⟩
    | call f args =>
      obtain ⟨v, st', h0, hk⟩ := hr.call _ _ _ _ (show r.call f args (addP st (part2 base m pend).yes) (fun v st' => splitF r.fl.ns v fun v => k ⟨v, st', none, (part2 base m pend).no⟩) from hk)
      replace hk := splitF_sound hk
      refine ⟨rec1 f args (addP st (part2 base m pend).yes) (v, st'), (rec1_ok h0).1, (rec1_ok h0).2, ⟨v, st', none, (part2 base m pend).no⟩, ?_, hk⟩
      unfold drawOp; rw [hkd]
      simp only [ob_eq, hx, Option.bind_some, om_eq, rec1_at, Option.map_some]
    | yld l args =>
      obtain ⟨r0, hc0, hk0, b, st', h0, h3⟩ := yieldW_sound hr (show yieldW r l args (addP st (part2 base m pend).yes) (fun b st' => k ⟨.bool b, st', none, (part2 base m pend).no⟩) from hk)
      refine ⟨r0, hc0, hk0, ⟨.bool b, st', none, (part2 base m pend).no⟩, ?_, h3⟩
      unfold drawOp; rw [hkd]
      simp only [ob_eq, hx, Option.bind_some, om_eq, h0, Option.map_some]
    | dfr f as => exact False.elim hk

theorem drawGoW_sound {r : RecW} (hr : RecOkW P r) {nt base : Nat} {ops : List Oper} {bef : List Nat} {k : List DEnt → Mid → Prop} : ∀ (l : List Oper) (i : Nat) (T : Tr AV) (st : St) (pend : List (Nat × Ob)) (tr : List DEnt),
    drawGoW P r nt base ops bef k i l T st pend tr → ∃ R : Nat → Rec, (∀ j, CodeOk P (R j)) ∧ (∀ j, CallOk P (R j).call) ∧ ∃ q, drawGo P R nt base ops bef i l T st pend tr = some q ∧ k q.1 q.2
  | [], i, T, st, pend, tr, h => ⟨fun _ => recFail, fun _ => fail_ok.1, fun _ => fail_ok.2, _, rfl, h⟩
  | o :: l, i, T, st, pend, tr, h => by
    simp only [drawGoW, obW_iff] at h
    obtain ⟨m, hm, wt, hwt, h⟩ := h
    rcases ifp_iff.1 h with ⟨hbw, h5⟩ | ⟨hbw, h5⟩ <;> subst hbw
    · obtain ⟨r0, hc0, hk0, d, hd, h6⟩ := drawOpW_sound hr h5
      obtain ⟨T', hT', h7⟩ := putW_sound h6
      obtain ⟨R, hc, hk, q, hq, hkq⟩ := drawGoW_sound hr l _ _ _ _ _ h7
      refine ⟨fun j => if j = i then r0 else R j, fun j => by by_cases e : j = i <;> simp [e, hc0, hc], fun j => by by_cases e : j = i <;> simp [e, hk0, hk], q, ?_, hkq⟩
      simp only [drawGo, ob_eq, hm, hwt, Option.bind_some, ifb_true, if_true]
      rw [hd]
      simp only [Option.bind_some, hT']
      rw [drawGo_congr (R' := R) l _ _ _ _ _ fun j hj => if_neg (by omega)]
      exact hq
    · obtain ⟨T', hT', h7⟩ := putW_sound h5
      obtain ⟨R, hc, hk, q, hq, hkq⟩ := drawGoW_sound hr l _ _ _ _ _ h7
      refine ⟨R, hc, hk, q, ?_, hkq⟩
      simp only [drawGo, ob_eq, hm, hwt, Option.bind_some, ifb_false]
      rw [hT']
      exact hq

mutual
theorem AV.beq_refl : ∀ u : AV, AV.beq u u = true
  | .bool b => by cases b <;> rfl
  | .int k n => by simp only [AV.beq]; rw [eqKind_iff.2 rfl, ifb_true, eqInt_iff.2 rfl]
  | .str s => eqBytes_iff.2 rfl
  | .ptr a b => by simp only [AV.beq]; rw [beq_t rfl, ifb_true, beq_t rfl]
  | .nilPtr => rfl
  | .slice a b c d e f => by simp only [AV.beq]; repeat rw [beq_t rfl, ifb_true]
                             cases e <;> rfl
  | .nilSlice => rfl
  | .map a => beq_t rfl
  | .nilMap => rfl
  | .func f a b => by simp only [AV.beq]; rw [beq_t rfl, ifb_true, AV.beqs_refl a, ifb_true, AV.beqs_refl b]
  | .yield a => beq_t rfl
  | .nilFunc => rfl
  | .nilIface => rfl
  | .agg a => by simp only [AV.beq]; exact AV.beqs_refl a
  | .tuple a => by simp only [AV.beq]; exact AV.beqs_refl a
  | .vs a b c d e f => by
    simp only [AV.beq]
    rw [AV.beqs_refl a, ifb_true, beq_t rfl, ifb_true, beq_t rfl, ifb_true, eqBool_eq, beq_self_eq_true, ifb_true, beq_t rfl, ifb_true]
    cases e with
    | none => rfl
    | some n => exact beq_t rfl
  | .vptr a b => by simp only [AV.beq]; rw [AV.beqs_refl a, ifb_true, beq_t rfl]
  | .gptr a b => by simp only [AV.beq]; rw [beq_t rfl, ifb_true, beq_t rfl]
  | .iface a b => by simp only [AV.beq]; rw [beq_t rfl, ifb_true, AV.beq_refl b]
theorem AV.beqs_refl : ∀ u : List AV, AV.beqs u u = true
  | [] => rfl
  | a :: l => by simp only [AV.beqs]; rw [AV.beq_refl a, ifb_true, AV.beqs_refl l]
end
theorem readSameW_sound {sym : TypeId → Bool} {T : Tr AV} {st : St} {op : Op} {v : AV} (h : readSameW P sym T st op v) : readSame P T st op v = true := by
  obtain ⟨x, hx, hk⟩ := aopW_sound h
  unfold readSame
  rw [hx]
  cases x with
  | val u s => obtain rfl : u = v := hk; exact AV.beq_refl u
  | call _ _ => exact False.elim hk
  | yld _ _ => exact False.elim hk
  | dfr _ _ => exact False.elim hk
theorem readsOk1W_sound {sym : TypeId → Bool} {bef : List Nat} {rd : Nat} {o : Oper} {e : DEnt} : ∀ (a : Nat) (l : List Oper) (tr : List DEnt), readsOk1W P sym bef rd o e a l tr → readsOk1 P bef rd o e a l tr = true
  | a, x :: l, ea :: tr, h => by
    simp only [readsOk1W] at h
    simp only [readsOk1]
    rcases ifp_iff.1 h with ⟨h1, h⟩ | ⟨h1, h⟩
    · rw [h1, ifb_true]
      rcases ifp_iff.1 h with ⟨h2, h⟩ | ⟨h2, h⟩
      · rw [h2, ifb_true]
        obtain ⟨m, hm, h⟩ := obW_iff.1 h
        rw [hm]
        rcases ifp_iff.1 h with ⟨h3, h⟩ | ⟨h3, h⟩
        · simp only [h3, ifb_true]; exact readsOk1W_sound _ _ _ h
        · simp only [h3, ifb_false, readSameW_sound h.1, ifb_true]; exact readsOk1W_sound _ _ _ h.2
      · rw [h2, ifb_false]
        obtain ⟨m, hm, h⟩ := obW_iff.1 h
        rw [hm]
        rcases ifp_iff.1 h with ⟨h3, h⟩ | ⟨h3, h⟩
        · simp only [h3, ifb_true]; exact readsOk1W_sound _ _ _ h
        · obtain ⟨e2, he2, h4, h5⟩ := obW_iff.1 h
          cases tr with
          | nil => cases he2
          | cons e3 tr =>
            injection he2 with he2; subst he2
            simp only [h3, ifb_false, readSameW_sound h4, ifb_true]; exact readsOk1W_sound _ _ _ h5
    · rw [h1, ifb_false, ifb_true]; exact readsOk1W_sound _ _ _ h
  | _, [], _, _ => by simp [readsOk1]
  | _, _ :: _, [], h => by simp [readsOk1W] at h
theorem readsOkW_sound {sym : TypeId → Bool} {bef : List Nat} {ops : List Oper} {tr : List DEnt} {k : Prop} : ∀ (i : Nat) (l : List Oper) (t : List DEnt), readsOkW P sym bef ops tr k i l t → readsOk P bef ops tr i l t = true ∧ k
  | i, o :: l, e :: t, h => by
    simp only [readsOkW] at h
    simp only [readsOk]
    rcases ifp_iff.1 h with ⟨h1, h2, h⟩ | ⟨h1, h⟩
    · rw [h1, ifb_true, readsOk1W_sound _ _ _ h2, ifb_true]; exact readsOkW_sound _ _ _ h
    · rw [h1, ifb_false, ifb_true]; exact readsOkW_sound _ _ _ h
  | _, [], _, h => ⟨by simp [readsOk], h⟩
  | _, _ :: _, [], h => by simp [readsOkW] at h

/-! Code. -/
theorem CodeS.seq {ro : Option Nat} {fn : FuncId} {nt : Nat} {x y : Code} {T : Tr AV} {D : List ADef} {st : St} {t1 : Tr AV} {d1 : List ADef} {s1 : St} {o : Out} (ha : CodeS P ro fn nt x T D st ⟨.normal, t1, d1, s1⟩)
    (hb : CodeS P ro fn nt y t1 d1 s1 o) : CodeS P ro fn nt (.seq x y) T D st o := by
  intro ρ w tm df b k cs hH hT hD hbf hro
  obtain ⟨ρ1, w1, tm1, df1, g1, H1, T1, D1, A1⟩ := ha ρ w tm df b (.code y :: k) cs hH hT hD hbf hro
  obtain ⟨ρ2, w2, tm2, df2, g2, H2, T2, D2, A2⟩ := hb ρ1 w1 tm1 df1 b k cs H1 T1 D1 hbf (hro.mono g1.le)
  exact ⟨ρ2, w2, tm2, df2, g1.trans g2, H2, T2, D2, A2.of_steps (.head st_seq A1)⟩
theorem CodeS.seq_stop {ro : Option Nat} {fn : FuncId} {nt : Nat} {x y : Code} {T : Tr AV} {D : List ADef} {st : St} {o : Out} (ha : CodeS P ro fn nt x T D st o) (he : o.ex ≠ .normal) : CodeS P ro fn nt (.seq x y) T D st o := by
  intro ρ w tm df b k cs hH hT hD hbf hro
  obtain ⟨ρ1, w1, tm1, df1, g1, H1, T1, D1, A1⟩ := ha ρ w tm df b (.code y :: k) cs hH hT hD hbf hro
  exact ⟨ρ1, w1, tm1, df1, g1, H1, T1, D1, Arr.of_steps (.one st_seq) (Arr.bind (k' := .code y :: k) (fun _ => rfl) A1 he)⟩
theorem CodeS.loop {ro : Option Nat} {fn : FuncId} {nt : Nat} {y : Code} {T : Tr AV} {D : List ADef} {st : St} {t1 : Tr AV} {d1 : List ADef} {s1 : St} {o : Out} (ha : CodeS P ro fn nt y T D st ⟨.normal, t1, d1, s1⟩)
    (hb : CodeS P ro fn nt (.loop y) t1 d1 s1 o) : CodeS P ro fn nt (.loop y) T D st o := by
  intro ρ w tm df b k cs hH hT hD hbf hro
  obtain ⟨ρ1, w1, tm1, df1, g1, H1, T1, D1, A1⟩ := ha ρ w tm df b (.inLoop y :: k) cs hH hT hD hbf hro
  obtain ⟨ρ2, w2, tm2, df2, g2, H2, T2, D2, A2⟩ := hb ρ1 w1 tm1 df1 b k cs H1 T1 D1 hbf (hro.mono g1.le)
  exact ⟨ρ2, w2, tm2, df2, g1.trans g2, H2, T2, D2, Arr.of_steps (.head st_loop (Steps.trans A1 (.one st_inLoop))) (Arr.cut st_loop A2)⟩
theorem CodeS.loop_stop {ro : Option Nat} {fn : FuncId} {nt : Nat} {y : Code} {T : Tr AV} {D : List ADef} {st : St} {o : Out} (ha : CodeS P ro fn nt y T D st o) (he : o.ex ≠ .normal) : CodeS P ro fn nt (.loop y) T D st o := by
  intro ρ w tm df b k cs hH hT hD hbf hro
  obtain ⟨ρ1, w1, tm1, df1, g1, H1, T1, D1, A1⟩ := ha ρ w tm df b (.inLoop y :: k) cs hH hT hD hbf hro
  exact ⟨ρ1, w1, tm1, df1, g1, H1, T1, D1, Arr.of_steps (.one st_loop) (Arr.bind (k' := .inLoop y :: k) (fun _ => rfl) A1 he)⟩
theorem CodeS.block {ro : Option Nat} {fn : FuncId} {nt : Nat} {y : Code} {id : Nat} {T : Tr AV} {D : List ADef} {st : St} {e : Ex} {t1 : Tr AV} {d1 : List ADef} {s1 : St} (ha : CodeS P ro fn nt y T D st ⟨e, t1, d1, s1⟩) :
    CodeS P ro fn nt (.block id y) T D st ⟨(match e with | .normal => .normal | .exit i => ifb (Nat.beq i id) .normal (.exit i) | .ret => .ret), t1, d1, s1⟩ := by
  intro ρ w tm df b k cs hH hT hD hbf hro
  obtain ⟨ρ1, w1, tm1, df1, g1, H1, T1, D1, A1⟩ := ha ρ w tm df b (.inBlock id :: k) cs hH hT hD hbf hro
  cases e with
  | normal => exact ⟨ρ1, w1, tm1, df1, g1, H1, T1, D1, Steps.head st_block (Steps.trans A1 (.one st_inBlock))⟩
  | exit i =>
    obtain ⟨k2, q1, q2⟩ := A1
    simp only [exitTo] at q1
    by_cases e : i = id
    · subst e
      simp only [beq_self_eq_true, if_true] at q1
      refine ⟨ρ1, w1, tm1, df1, g1, H1, T1, D1, ?_⟩
      show Arr P _ b k cs (ifb (Nat.beq i i) .normal (.exit i)) _ _ _
      rw [beq_t rfl, ifb_true]
      exact Steps.head st_block (q2.trans (.one (st_exit q1)))
    · rw [if_neg (by simp; exact fun q => e q.symm)] at q1
      refine ⟨ρ1, w1, tm1, df1, g1, H1, T1, D1, ?_⟩
      show Arr P _ b k cs (ifb (Nat.beq i id) .normal (.exit i)) _ _ _
      rw [beq_f e, ifb_false]
      exact ⟨k2, q1, .head st_block q2⟩
  | ret =>
    obtain ⟨k2, q2⟩ := A1
    exact ⟨ρ1, w1, tm1, df1, g1, H1, T1, D1, k2, .head st_block q2⟩
theorem CodeS.scope {ro : Option Nat} {fn : FuncId} {nt : Nat} {y : Code} {T : Tr AV} {D : List ADef} {st : St} {o : Out} (ha : CodeS P ro fn nt y T D st o) : CodeS P ro fn nt (.scope y) T D st o := by
  intro ρ w tm df b k cs hH hT hD hbf hro
  obtain ⟨ρ1, w1, tm1, df1, g1, H1, T1, D1, A1⟩ := ha ρ w tm df b (.inScope y :: k) cs hH hT hD hbf hro
  obtain ⟨e1, t1, d1, s1⟩ := o
  refine ⟨ρ1, w1, tm1, df1, g1, H1, T1, D1, Arr.of_steps (.one st_scope) ?_⟩
  cases e1 with
  | normal => exact Steps.trans A1 (.one st_inScope)
  | exit id => exact Arr.bind (fun _ => rfl) A1 (by simp)
  | ret => exact Arr.bind (fun _ => rfl) A1 (by simp)
theorem CodeS.cond {ro : Option Nat} {fn : FuncId} {nt : Nat} {x : Operand} {y z : Code} {T : Tr AV} {D : List ADef} {st : St} {o : Out} {t : Bool} (hx : opd T x = some (.bool t)) (ha : CodeS P ro fn nt (if t then y else z) T D st o) :
    CodeS P ro fn nt (.cond x y z) T D st o := by
  intro ρ w tm df b k cs hH hT hD hbf hro
  have hv := evT_sound hT _ _ hx
  obtain ⟨u, hu⟩ : ∃ u, evT tm x = u := ⟨_, rfl⟩
  rw [hu] at hv
  cases hv
  obtain ⟨ρ1, w1, tm1, df1, g1, H1, T1, D1, A1⟩ := ha ρ w tm df b k cs hH hT hD hbf hro
  exact ⟨ρ1, w1, tm1, df1, g1, H1, T1, D1, A1.of_steps (.one (st_cond hu))⟩

theorem codeW_sound (hm : P.follows .mixedOrders = true) {K : Known} {r : RecW} (hr : RecOkW P r) {ro : Option Nat} {fn : FuncId} {nt : Nat} {c : Code} {T : Tr AV} {D : List ADef} {st : St} {Q : Out → Prop}
    (h : codeW P K r ro fn nt c T D st Q) : ∃ o, CodeS P ro fn nt c T D st o ∧ Q o := by
  have nil : ∀ {e : Ex}, (∀ (b : Frame) (tm : Array Value) (df : List Deferred) (k : List Item) (cs : List Frame) (w : World), Arr P (lone (on b tm df (.code c :: k)) cs w) b k cs e tm df w) → CodeS P ro fn nt c T D st ⟨e, T, D, st⟩ :=
    fun ha ρ w tm df b k cs hH hT hD _ _ => ⟨ρ, w, tm, df, Goes.refl, hH, hT, hD, ha b tm df k cs w⟩
  unfold codeW at h
  split at h
  · exact ⟨_, nil (e := .normal) fun b tm df k cs w => Steps.one st_skip, h⟩
  · exact ⟨_, nil (e := .normal) fun b tm df k cs w => Steps.one st_label, h⟩
  · obtain ⟨⟨e, t1, d1, s1⟩, h1, h2⟩ := hr.code _ _ _ _ _ _ _ _ h
    cases e with
    | normal =>
      obtain ⟨o, h3, h4⟩ := hr.code _ _ _ _ _ _ _ _ h2
      exact ⟨o, h1.seq h3, h4⟩
    | exit i => exact ⟨_, h1.seq_stop (by simp), h2⟩
    | ret => exact ⟨_, h1.seq_stop (by simp), h2⟩
  · rw [obW_iff] at h
    obtain ⟨v, hv, h⟩ := h
    split at h
    · rename_i b'
      rcases ifp_iff.1 h with ⟨rfl, h⟩ | ⟨rfl, h⟩
      · obtain ⟨o, h1, h2⟩ := hr.code _ _ _ _ _ _ _ _ h
        exact ⟨o, .cond hv (by rw [if_pos rfl]; exact h1), h2⟩
      · obtain ⟨o, h1, h2⟩ := hr.code _ _ _ _ _ _ _ _ h
        exact ⟨o, .cond hv (by rw [if_neg (by simp)]; exact h1), h2⟩
    · exact h.elim
  · obtain ⟨⟨e, t1, d1, s1⟩, h1, h2⟩ := hr.code _ _ _ _ _ _ _ _ h
    cases e with
    | normal => exact ⟨_, h1.block, h2⟩
    | exit i =>
      rename_i id y
      refine ⟨_, h1.block, ?_⟩
      rcases ifp_iff.1 (show ifp (Nat.beq i id) (Q ⟨.normal, t1, d1, s1⟩) (Q ⟨.exit i, t1, d1, s1⟩) from h2) with ⟨hb, h2⟩ | ⟨hb, h2⟩
      · show Q ⟨ifb (Nat.beq i id) .normal (.exit i), t1, d1, s1⟩
        rw [hb]; exact h2
      · show Q ⟨ifb (Nat.beq i id) .normal (.exit i), t1, d1, s1⟩
        rw [hb]; exact h2
    | ret => exact ⟨_, h1.block, h2⟩
  · rename_i y
    cases hl : K.lp fn (firstReg y) with
    | some C =>
      rw [hl] at h
      exact h.1 _ _ _ _ _ h.2
    | none =>
      rw [hl] at h
      obtain ⟨⟨e, t1, d1, s1⟩, h1, h2⟩ := hr.code _ _ _ _ _ _ _ _ h
      cases e with
      | normal =>
        obtain ⟨o, h3, h4⟩ := hr.code _ _ _ _ _ _ _ _ h2
        exact ⟨o, h1.loop h3, h4⟩
      | exit i => exact ⟨_, h1.loop_stop (by simp), h2⟩
      | ret => exact ⟨_, h1.loop_stop (by simp), h2⟩
  · obtain ⟨o, h1, h2⟩ := hr.code _ _ _ _ _ _ _ _ h
    exact ⟨o, h1.scope, h2⟩
  · rename_i id
    exact ⟨_, nil (e := .exit id) fun b tm df k cs w => ⟨k, rfl, Steps.refl _ _⟩, h⟩
  · exact ⟨_, nil (e := .ret) fun b tm df k cs w => ⟨k, Steps.refl _ _⟩, h⟩
  · rename_i id ops draw
    cases draw with
    | false =>
      obtain ⟨T', D', st', hQ, sem⟩ := opsW_sound (flAt_ok hr) (cd := ro.isNone) (nt := nt) (ops := ops) ops.toList 0 T D st h (fun j hj => by simp)
      refine ⟨⟨.normal, T', D', st'⟩, fun ρ w tm df b k cs hH hT hD hbf hro => ?_, hQ⟩
      obtain ⟨ρ1, w1, tm1, df1, g1, H1, T1, D1, A1⟩ := sem b (fun q => hro.isNone q) k cs (List.range ops.size) (by simp) ρ w tm df hH hT hD
      exact ⟨ρ1, w1, tm1, df1, g1, H1, T1, D1, Steps.head st_region A1⟩
    | true =>
      change drawW P (flAt K r fn id) nt ops.toList T D st (fun T D st => Q ⟨.normal, T, D, st⟩) at h
      unfold drawW at h
      rw [ifp_F] at h
      obtain ⟨hreg, h⟩ := h
      obtain ⟨R, hc, hk, q, hq, h6⟩ := drawGoW_sound (flAt_ok hr) _ _ _ _ _ _ h
      obtain ⟨hrd, hQ⟩ := readsOkW_sound _ _ _ h6
      have hrun : drawRunR P R nt ops.toList T D st = some ⟨q.2.tmps, D, q.2.st⟩ := by
        unfold drawRunR
        rw [hreg, ifb_true, ob_eq, hq, Option.bind_some, hrd, ifb_true]
      refine ⟨⟨.normal, q.2.tmps, D, q.2.st⟩, fun ρ w tm df b k cs hH hT hD hbf hro => ?_, hQ⟩
      exact draw_sound hm hc hk hrun hH hT hD (b := b) id k cs
  · rename_i g ps as body
    cases hl : K.lp fn (firstReg body) with
    | some C =>
      rw [hl] at h
      exact h.1 _ _ _ _ _ h.2
    | none =>
      rw [hl] at h
      obtain ⟨gv, hg, h⟩ := obW_iff.1 (show obW (opd T g) _ from h)
      obtain ⟨q, hq, h⟩ := obW_iff.1 h
      unfold rangeW at h
      split at h
      · rename_i f first cap _
        obtain ⟨v, st', hS, h⟩ := hr.call _ _ _ _ h
        obtain ⟨p, hp, h⟩ := obW_iff.1 h
        rcases ifp_iff.1 h with ⟨_, h⟩ | ⟨hb, h⟩
        · exact h.elim
        have r1 := rec1_ok (p := (v, st')) hS
        have hat := rec1_at f (first ++ [AV.yield q.st.next] ++ cap) (q.st.new (.loop { state := .ready, pending := none, fn, nt, tmps := T, params := ps.toList, assign := as, body, defers := q.d })) (v, st')
        have run : ∀ o, rangeA (rec1 f (first ++ [AV.yield q.st.next] ++ cap) (q.st.new (.loop { state := .ready, pending := none, fn, nt, tmps := T, params := ps.toList, assign := as, body, defers := q.d })) (v, st')) (.func f first cap) T q.defers q.st.next
            (q.st.new (.loop { state := .ready, pending := none, fn, nt, tmps := T, params := ps.toList, assign := as, body, defers := q.d })) = some o → CodeS P ro fn nt (.rangeFunc g ps as body) T D st o := by
          intro o ho
          refine code_sound hm r1.1 r1.2 ro fn nt _ T D st o ?_
          show codeStep P (rec1 f (first ++ [AV.yield q.st.next] ++ cap) (q.st.new (.loop { state := .ready, pending := none, fn, nt, tmps := T, params := ps.toList, assign := as, body, defers := q.d })) (v, st')) ro fn nt (.rangeFunc g ps as body) T D st = some o
          simp only [codeStep, ob_eq, hg, hq, Option.bind_some]
          exact ho
        have hnb : p.state = .ready ∨ p.state = .done ∨ p.state = .exhausted := by cases e : p.state <;> simp [e] at hb ⊢
        cases hpe : p.pending with
        | none =>
          rw [hpe] at h
          refine ⟨_, run _ ?_, h⟩
          simp only [rangeA, ob_eq]
          rw [hat]
          simp only [Option.bind_some, hp]
          rcases hnb with e | e | e <;> simp only [e, hpe]
        | some c =>
          rw [hpe] at h
          obtain ⟨e, he, h⟩ := obW_iff.1 (show obW (jumpA c) _ from h)
          refine ⟨_, run _ ?_, h⟩
          simp only [rangeA, ob_eq]
          rw [hat]
          simp only [Option.bind_some, hp]
          rcases hnb with e | e | e <;> simp only [e, hpe, om_eq, he, Option.map_some]
      · exact h.elim
  · exact h.elim

theorem collected_eq {r : Rec} : ∀ {D : List ADef} {st st' : St}, collectedOnly D st = some st' → defersA r D st = some st'
  | [], st, st', h => h
  | .call _ _ :: _, st, st', h => by cases h
  | .collected d :: D, st, st', h => by
    simp only [collectedOnly, ob_some] at h
    obtain ⟨o, h1, h2⟩ := h
    simp only [defersA, ob_eq, h1, Option.bind_some]
    split at h2
    · exact collected_eq h2
    · cases h2

open Classical in
theorem callW_sound {r : RecW} (hr : RecOkW P r) {f : FuncId} {args : List AV} {st : St} {Q : AV → St → Prop} (h : callW P r f args st Q) : ∃ v st', CallS P f args st v st' ∧ Q v st' := by
  unfold callW at h
  rw [obW_iff] at h
  obtain ⟨fn, hfn, h⟩ := h
  rcases ifp_iff.1 h with ⟨_, h⟩ | ⟨hname, h⟩
  · exact h.elim
  rw [obW_iff] at h
  obtain ⟨c, hc, h⟩ := h
  rw [ifp_F] at h
  obtain ⟨hlen, h⟩ := h
  obtain ⟨⟨e, t1, d1, s1⟩, h1, h2⟩ := hr.code _ _ _ _ _ _ _ _ h
  have main : e ≠ .normal → e ≠ .ret → False := by
    intro n1 n2
    cases e with
    | normal => exact n1 rfl
    | exit i => exact False.elim h2
    | ret => exact n2 rfl
  have h3 : (∀ i, e ≠ .exit i) ∧ obW (collectedOnly d1 s1) fun st => obW (resultsA P t1 st fn.results.toList) fun vs => Q (oneOrTuple vs) st := by
    cases e with
    | normal => exact ⟨fun i => by simp, h2⟩
    | exit i => exact False.elim h2
    | ret => exact ⟨fun i => by simp, h2⟩
  obtain ⟨hne, h3⟩ := h3
  simp only [obW_iff] at h3
  obtain ⟨st2, h4, vs, h5, h6⟩ := h3
  let r0 : Rec := ⟨fun ro fn' nt c' T D s => if ro = none ∧ fn' = f ∧ nt = fn.ntmps ∧ c' = c ∧ T = Tr.ofList .leaf 0 args ∧ D = [] ∧ s = st then some ⟨e, t1, d1, s1⟩ else none, fun _ _ _ => none, fun _ _ _ => none⟩
  have hc0 : CodeOk P r0 := by
    intro ro fn' nt c' T D s o ho
    change (if ro = none ∧ fn' = f ∧ nt = fn.ntmps ∧ c' = c ∧ T = Tr.ofList .leaf 0 args ∧ D = [] ∧ s = st then some _ else none) = some o at ho
    by_cases q : ro = none ∧ fn' = f ∧ nt = fn.ntmps ∧ c' = c ∧ T = Tr.ofList .leaf 0 args ∧ D = [] ∧ s = st
    · rw [if_pos q] at ho
      obtain ⟨rfl, rfl, rfl, rfl, rfl, rfl, rfl⟩ := q
      injection ho with ho; subst ho
      exact h1
    · rw [if_neg q] at ho; cases ho
  have hd0 : CallOkD P r0.dcall := fun f args st v st' h => by cases h
  refine ⟨_, _, (call_sound hc0 hd0).normal f args st (oneOrTuple vs) st2 ?_, h6⟩
  unfold callStep
  simp only [ob_eq, hfn, Option.bind_some]
  rw [hname, ifb_false, hc, Option.bind_some, hlen, ifb_true]
  have : r0.code none f fn.ntmps c (Tr.ofList .leaf 0 args) [] st = some ⟨e, t1, d1, s1⟩ := by simp [r0]
  rw [this]
  simp only [Option.bind_some]
  cases e with
  | exit i => exact absurd rfl (hne i)
  | normal => simp only [collected_eq h4, Option.bind_some, h5, om_eq, Option.map_some]
  | ret => simp only [collected_eq h4, Option.bind_some, h5, om_eq, Option.map_some]

def KnownOk (P : Program) (K : Known) : Prop := ∀ f C args st Q, K.tab f = some C → C args st Q → ∃ v st', CallS P f args st v st' ∧ Q v st'
theorem runW_sound (hm : P.follows .mixedOrders = true) {K : Known} (hK : KnownOk P K) : ∀ n, RecOkW P (runW P K n)
  | 0 => ⟨fun _ _ _ _ _ _ _ _ h => False.elim h, fun _ _ _ _ h => False.elim h⟩
  | n + 1 => by
    have ih := runW_sound hm hK n
    refine ⟨fun ro fn nt c T D st Q h => codeW_sound hm ih h, fun f args st Q h => ?_⟩
    change Option.rec (motive := fun _ => Prop) (callW P (runW P K n) f args st Q) (fun C => C args st Q) (K.tab f) at h
    cases hf : K.tab f with
    | none => rw [hf] at h; exact callW_sound ih h
    | some C => rw [hf] at h; exact hK _ _ _ _ _ hf h

/-- A call is walked: its body, with the calls and loops that are known. -/
theorem CallS.of_W (hm : P.follows .mixedOrders = true) {K : Known} (hK : KnownOk P K) (n : Nat) {f : FuncId} {args : List AV} {st : St} {Q : AV → St → Prop} (h : callW P (runW P K n) f args st Q) : ∃ v st', CallS P f args st v st' ∧ Q v st' :=
  callW_sound (runW_sound hm hK n) h

end Go.Det
